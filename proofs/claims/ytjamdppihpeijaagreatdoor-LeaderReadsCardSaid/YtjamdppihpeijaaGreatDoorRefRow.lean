/- The reference's 'span', 'Row' and 'Letter' give the row, and the letter, of numbers; there are as many numbers as they read. -/
import Derived.Test.YtjamdppihpeijaaGreatDoorRefLeaf
import Derived.Test.YtjamdppihpeijaaGreatDoorRd
import Derived.Test.YtjamdppihpeijaaGreatDoorOnly
import Derived.RegionTactic
import Derived.Deep.QuietTactic
import Derived.BigQuiet
import Derived.StillTailTactics
namespace Go.Proofs.YtjamdppihpeijaaGreatDoor
open Go.RowKit

abbrev IV (n : Int) : Value := .int .i64 n
theorem rspan_any (b o n c k : Nat) (x y : Int) (w : World) (hk : k + 1 < n) (hn : n ≤ 1000000000) (h0 : w.cell? ⟨b, o + k, none⟩ = some (.int .i64 x)) (h1 : w.cell? ⟨b, o + (k + 1), none⟩ = some (.int .i64 y)) :
    Calls Tryz.prog 74 #[.slice (some ⟨b, o, none⟩) n c, .int .i64 k] w fun e w' => e = .returned (.agg #[.int .i64 x, .int .i64 y]) ∧ Below w.heap.size w w' := by
  have hk0 : k < n := by omega
  have hbl : b < w.heap.size := World.block_lt_of_cell? w ⟨b, o + k, none⟩ h0
  have g0 : (w.alloc (.cells #[IV 0, IV 0] 46)).cell? ⟨b, o + k, none⟩ = some (.int .i64 x) := ((below_alloc w _).cell (p := ⟨b, o + k, none⟩) hbl).trans h0
  have g1 : (w.alloc (.cells #[IV 0, IV 0] 46)).cell? ⟨b, o + (k + 1), none⟩ = some (.int .i64 y) := ((below_alloc w _).cell (p := ⟨b, o + (k + 1), none⟩) hbl).trans h1
  go_enter Tryz.func74, Tryz.ntmps74
  go_wp2
  go_region
  go_wp2
  exact bodyPost_ret (v := .agg #[.int .i64 x, .int .i64 y]) (by simp [results, Tryz.results74, go_sem]) rfl ⟨rfl, ((Below.refl _ _).alloc (Nat.le_refl _) _).drew⟩

theorem Rd.at_ {w : World} {a : Option Addr} {ns : List Int} (h : Rd (fun n : Int => Value.int .i64 n) w a ns) {n : Nat} (hn : ns.length = n) (h0 : 0 < n) :
    ∃ b o, a = some ⟨b, o, none⟩ ∧ b < w.heap.size ∧ ∀ k, k < n → w.cell? ⟨b, o + k, none⟩ = some (.int .i64 (nth ns k)) := by
  obtain ⟨b, o, rfl, hl, hc⟩ := h.ne (by intro e; subst e; simp at hn; omega)
  refine ⟨b, o, rfl, hl, fun k hk => hc k _ ?_⟩
  unfold nth
  rw [List.getD_eq_getElem?_getD, List.getElem?_eq_getElem (by omega)]; rfl
theorem Rd.at_step {w w' : World} {b o n : Nat} {ns : List Int} (hl : b < w.heap.size) (h : ∀ k, k < n → w.cell? ⟨b, o + k, none⟩ = some (.int .i64 (nth ns k))) (hb : Below w.heap.size w w') :
    ∀ k, k < n → w'.cell? ⟨b, o + k, none⟩ = some (.int .i64 (nth ns k)) := fun k hk => (hb.cell (p := ⟨b, o + k, none⟩) hl).trans (h k hk)

theorem rspan_nth (b o n c k : Nat) (i : Int) (ns : List Int) (w w0 : World) (hi : i = (k : Int)) (hb : Below w0.heap.size w0 w) (hbl : b < w0.heap.size) (hc : ∀ k, k < n → w0.cell? ⟨b, o + k, none⟩ = some (.int .i64 (nth ns k))) (hk : k + 1 < n) (hn : n ≤ 1000000000) :
    Calls Tryz.prog 74 #[.slice (some ⟨b, o, none⟩) n c, .int .i64 i] w fun e w' => e = .returned (.agg #[IV (nth ns k), IV (nth ns (k + 1))]) ∧ Below w0.heap.size w0 w' := by
  subst hi
  have h := Rd.at_step hbl hc hb
  exact (rspan_any b o n c k _ _ w hk hn (h k (by omega)) (h (k + 1) hk)).mono fun e w' ⟨he, hw⟩ => ⟨he, below_then hb hw (Nat.le_refl _)⟩
set_option maxHeartbeats 400000 in
theorem rrow_any (a : Option Addr) (c : Nat) (ns : List Int) (w : World) (hr : Rd (fun n : Int => Value.int .i64 n) w a ns) (hn : ns.length = 14) :
    Calls Tryz.prog 50 #[.slice a 14 c] w fun e w' => e = .returned (.agg (rowVal ns)) ∧ Below w.heap.size w w' := by
  obtain ⟨b, o, rfl, hbl, hc⟩ := hr.at_ hn (by omega)
  have hB1 := below_alloc w (.cells #[IV 0, IV 0, IV 0, IV 0, IV 0, IV 0, IV 0, IV 0, IV 0, IV 0, IV 0, IV 0, IV 0, IV 0] 48)
  have hc1 := Rd.at_step hbl hc hB1
  have HC := Lib.hid hc1
  have HB0 := Lib.hid (Below.refl (w.alloc (.cells #[IV 0, IV 0, IV 0, IV 0, IV 0, IV 0, IV 0, IV 0, IV 0, IV 0, IV 0, IV 0, IV 0, IV 0] 48)).heap.size (w.alloc (.cells #[IV 0, IV 0, IV 0, IV 0, IV 0, IV 0, IV 0, IV 0, IV 0, IV 0, IV 0, IV 0, IV 0, IV 0] 48)))
  clear hc hc1 hr hn
  go_enter Tryz.func50, Tryz.ntmps50
  go_wp2_with fail
  refine (rspan_nth b o 14 c 0 _ ns _ _ rfl HB0.out (by simp; omega) HC.out (by omega) (by omega)).mono ?_
  rintro e w1 ⟨rfl, hb1⟩
  have HB1 := Lib.hid hb1
  clear hb1
  go_wp2_with fail
  refine (rspan_nth b o 14 c 2 _ ns _ _ rfl HB1.out (by simp; omega) HC.out (by omega) (by omega)).mono ?_
  rintro e w2 ⟨rfl, hb2⟩
  have HB2 := Lib.hid hb2
  clear hb2
  go_wp2_with fail
  refine (rspan_nth b o 14 c 4 _ ns _ _ rfl HB2.out (by simp; omega) HC.out (by omega) (by omega)).mono ?_
  rintro e w3 ⟨rfl, hb3⟩
  have HB3 := Lib.hid hb3
  clear hb3
  go_wp2_with fail
  refine (rspan_nth b o 14 c 6 _ ns _ _ rfl HB3.out (by simp; omega) HC.out (by omega) (by omega)).mono ?_
  rintro e w4 ⟨rfl, hb4⟩
  have HB4 := Lib.hid hb4
  clear hb4
  go_wp2_with fail
  refine (rspan_nth b o 14 c 8 _ ns _ _ rfl HB4.out (by simp; omega) HC.out (by omega) (by omega)).mono ?_
  rintro e w5 ⟨rfl, hb5⟩
  have HB5 := Lib.hid hb5
  clear hb5
  go_wp2_with fail
  refine (rspan_nth b o 14 c 10 _ ns _ _ rfl HB5.out (by simp; omega) HC.out (by omega) (by omega)).mono ?_
  rintro e w6 ⟨rfl, hb6⟩
  have HB6 := Lib.hid hb6
  clear hb6
  go_wp2_with fail
  refine (rspan_nth b o 14 c 12 _ ns _ _ rfl HB6.out (by simp; omega) HC.out (by omega) (by omega)).mono ?_
  rintro e w7 ⟨rfl, hb7⟩
  have HB7 := Lib.hid hb7
  clear hb7
  have k0 : w7.cell? ⟨w.heap.size, 0, none⟩ = some (IV 0) := (HB7.out.cell (p := ⟨w.heap.size, 0, none⟩) (by simp)).trans (by simp [go_sem])
  have k1 : w7.cell? ⟨w.heap.size, 1, none⟩ = some (IV 0) := (HB7.out.cell (p := ⟨w.heap.size, 1, none⟩) (by simp)).trans (by simp [go_sem])
  have k2 : w7.cell? ⟨w.heap.size, 2, none⟩ = some (IV 0) := (HB7.out.cell (p := ⟨w.heap.size, 2, none⟩) (by simp)).trans (by simp [go_sem])
  have k3 : w7.cell? ⟨w.heap.size, 3, none⟩ = some (IV 0) := (HB7.out.cell (p := ⟨w.heap.size, 3, none⟩) (by simp)).trans (by simp [go_sem])
  have k4 : w7.cell? ⟨w.heap.size, 4, none⟩ = some (IV 0) := (HB7.out.cell (p := ⟨w.heap.size, 4, none⟩) (by simp)).trans (by simp [go_sem])
  have k5 : w7.cell? ⟨w.heap.size, 5, none⟩ = some (IV 0) := (HB7.out.cell (p := ⟨w.heap.size, 5, none⟩) (by simp)).trans (by simp [go_sem])
  have k6 : w7.cell? ⟨w.heap.size, 6, none⟩ = some (IV 0) := (HB7.out.cell (p := ⟨w.heap.size, 6, none⟩) (by simp)).trans (by simp [go_sem])
  have k7 : w7.cell? ⟨w.heap.size, 7, none⟩ = some (IV 0) := (HB7.out.cell (p := ⟨w.heap.size, 7, none⟩) (by simp)).trans (by simp [go_sem])
  have k8 : w7.cell? ⟨w.heap.size, 8, none⟩ = some (IV 0) := (HB7.out.cell (p := ⟨w.heap.size, 8, none⟩) (by simp)).trans (by simp [go_sem])
  have k9 : w7.cell? ⟨w.heap.size, 9, none⟩ = some (IV 0) := (HB7.out.cell (p := ⟨w.heap.size, 9, none⟩) (by simp)).trans (by simp [go_sem])
  have k10 : w7.cell? ⟨w.heap.size, 10, none⟩ = some (IV 0) := (HB7.out.cell (p := ⟨w.heap.size, 10, none⟩) (by simp)).trans (by simp [go_sem])
  have k11 : w7.cell? ⟨w.heap.size, 11, none⟩ = some (IV 0) := (HB7.out.cell (p := ⟨w.heap.size, 11, none⟩) (by simp)).trans (by simp [go_sem])
  have k12 : w7.cell? ⟨w.heap.size, 12, none⟩ = some (IV 0) := (HB7.out.cell (p := ⟨w.heap.size, 12, none⟩) (by simp)).trans (by simp [go_sem])
  have k13 : w7.cell? ⟨w.heap.size, 13, none⟩ = some (IV 0) := (HB7.out.cell (p := ⟨w.heap.size, 13, none⟩) (by simp)).trans (by simp [go_sem])
  have kf : ∀ j, w7.frozen? ⟨w.heap.size, j, none⟩ = false := fun j => (HB7.out.frozen (p := ⟨w.heap.size, j, none⟩) (by simp)).trans (by simp [go_sem])
  have hsz : w.heap.size < w7.heap.size := by have := HB7.out.size; simp at this; omega
  have HBF : Hid (Below w.heap.size w w7) := Lib.hid (hB1.trans (HB7.out.mono (by simp)))
  go_wp2
  refine bodyPost_ret (v := .agg (rowVal ns)) ?_ rfl ⟨rfl, ?_⟩
  · simp [results, Tryz.results50, go_sem, rowVal, k0, k1, k2, k3, k4, k5, k6, k7, k8, k9, k10, k11, k12, k13]
  · exact ((((((((((((((HBF.out.setCell (p := ⟨w.heap.size, 0, none⟩) (Nat.le_refl _) _).setCell (p := ⟨w.heap.size, 1, none⟩) (Nat.le_refl _) _).setCell (p := ⟨w.heap.size, 2, none⟩) (Nat.le_refl _) _).setCell (p := ⟨w.heap.size, 3, none⟩) (Nat.le_refl _) _).setCell (p := ⟨w.heap.size, 4, none⟩) (Nat.le_refl _) _).setCell (p := ⟨w.heap.size, 5, none⟩) (Nat.le_refl _) _).setCell (p := ⟨w.heap.size, 6, none⟩) (Nat.le_refl _) _).setCell (p := ⟨w.heap.size, 7, none⟩) (Nat.le_refl _) _).setCell (p := ⟨w.heap.size, 8, none⟩) (Nat.le_refl _) _).setCell (p := ⟨w.heap.size, 9, none⟩) (Nat.le_refl _) _).setCell (p := ⟨w.heap.size, 10, none⟩) (Nat.le_refl _) _).setCell (p := ⟨w.heap.size, 11, none⟩) (Nat.le_refl _) _).setCell (p := ⟨w.heap.size, 12, none⟩) (Nat.le_refl _) _).setCell (p := ⟨w.heap.size, 13, none⟩) (Nat.le_refl _) _)
end Go.Proofs.YtjamdppihpeijaaGreatDoor
