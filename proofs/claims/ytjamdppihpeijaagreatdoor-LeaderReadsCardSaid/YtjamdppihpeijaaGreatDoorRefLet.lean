/- The reference's 'Letter' gives the letter of eight numbers. -/
import Derived.Test.YtjamdppihpeijaaGreatDoorRefRow
namespace Go.Proofs.YtjamdppihpeijaaGreatDoor
open Go.RowKit

def letNone : Array Value := #[IV 0, IV 0, .int .u8 0, IV 0, IV 0, IV 0, IV 0, .bool false]
def LetPost (ns : List Int) (w : World) (e : Ending) (w' : World) : Prop :=
  e = .returned (.tuple #[.agg (if letOk ns then letVal ns else letNone), .bool (letOk ns)]) ∧ Below w.heap.size w w'
theorem letPost_no {ns : List Int} {w w' : World} {e : Ending} (h : letOk ns = false) (he : e = .returned (.tuple #[.agg letNone, .bool false])) (hb : Below w.heap.size w w') : LetPost ns w e w' := by
  refine ⟨?_, hb⟩; rw [h]; exact he
theorem letPost_yes {ns : List Int} {w w' : World} {e : Ending} (h : letOk ns = true) (he : e = .returned (.tuple #[.agg (letVal ns), .bool true])) (hb : Below w.heap.size w w') : LetPost ns w e w' := by
  refine ⟨?_, hb⟩; rw [h]; exact he

set_option maxRecDepth 100000 in
set_option maxHeartbeats 400000 in
theorem rletter_any (a : Option Addr) (c : Nat) (ns : List Int) (w : World) (hr : Rd (fun n : Int => Value.int .i64 n) w a ns) (hn : ns.length = 8) :
    Calls Tryz.prog 51 #[.slice a 8 c] w (LetPost ns w) := by
  obtain ⟨b, o, rfl, hbl, hc⟩ := hr.at_ hn (by omega)
  have hB1 := below_alloc w (.cells letNone 51)
  have hc1 := Rd.at_step hbl hc hB1
  unfold letNone at hc1 hB1
  have HB := Lib.hid hB1
  have g0 := hc1 0 (by omega)
  have g1 := hc1 1 (by omega)
  have g2 := hc1 2 (by omega)
  have g3 := hc1 3 (by omega)
  have g4 := hc1 4 (by omega)
  have g5 := hc1 5 (by omega)
  have g6 := hc1 6 (by omega)
  have g7 := hc1 7 (by omega)
  rw [Nat.add_zero] at g0
  clear hc hc1 hr hn hB1
  by_cases h2 : withinB (nth ns 2) 0 255 = true
  · by_cases h7 : withinB (nth ns 7) 0 1 = true
    · have HOK := Lib.hid (show letOk ns = true by show (withinB (nth ns 2) 0 255 && withinB (nth ns 7) 0 1) = _; rw [h2, h7]; rfl)
      have HW2 := Lib.hid h2
      have HW7 := Lib.hid h7
      have h20 : 0 ≤ nth ns 2 ∧ nth ns 2 ≤ 255 := by unfold withinB at h2; simpa using h2
      obtain ⟨h20, h21⟩ := h20
      clear h2 h7
      go_enter Tryz.func51, Tryz.ntmps51
      go_wp2_with fail
      refine (within_any (nth ns 2) 0 255 _).mono ?_
      rintro e w' ⟨rfl, rfl⟩
      rw [HW2.out]
      go_wp2_with fail
      refine (within_any (nth ns 7) 0 1 _).mono ?_
      rintro e w' ⟨rfl, rfl⟩
      rw [HW7.out]
      go_wp2_with fail
      refine still_tail 27 (by kernel_rfl) (by kernel_rfl) fun W hW => ?_
      simp only [List.take_succ_cons, List.take_zero, List.drop_succ_cons, List.drop_zero]
      have HWD : Hid (Below w.heap.size w W) := Lib.hid (by rw [hW]; exact HB.out.drew)
      have q : ∀ j, W.cell? ⟨b, o + j, none⟩ = (w.alloc (.cells letNone 51)).cell? ⟨b, o + j, none⟩ := fun j => by rw [hW]; rfl
      have p : ∀ j, W.cell? ⟨w.heap.size, j, none⟩ = (w.alloc (.cells letNone 51)).cell? ⟨w.heap.size, j, none⟩ := fun j => by rw [hW]; rfl
      have f : ∀ j, W.frozen? ⟨w.heap.size, j, none⟩ = false := fun j => by rw [hW]; simp [go_sem]
      have hsz : w.heap.size < W.heap.size := by rw [hW]; simp
      have e0 := (q 0).trans g0
      rw [Nat.add_zero] at e0
      have e1 := (q 1).trans g1
      have e2 := (q 2).trans g2
      have e3 := (q 3).trans g3
      have e4 := (q 4).trans g4
      have e5 := (q 5).trans g5
      have e6 := (q 6).trans g6
      have e7 := (q 7).trans g7
      have z0 : W.cell? ⟨w.heap.size, 0, none⟩ = some (IV 0) := (p 0).trans (by simp [go_sem, letNone])
      have z1 : W.cell? ⟨w.heap.size, 1, none⟩ = some (IV 0) := (p 1).trans (by simp [go_sem, letNone])
      have z2 : W.cell? ⟨w.heap.size, 2, none⟩ = some (.int .u8 0) := (p 2).trans (by simp [go_sem, letNone])
      have z3 : W.cell? ⟨w.heap.size, 3, none⟩ = some (IV 0) := (p 3).trans (by simp [go_sem, letNone])
      have z4 : W.cell? ⟨w.heap.size, 4, none⟩ = some (IV 0) := (p 4).trans (by simp [go_sem, letNone])
      have z5 : W.cell? ⟨w.heap.size, 5, none⟩ = some (IV 0) := (p 5).trans (by simp [go_sem, letNone])
      have z6 : W.cell? ⟨w.heap.size, 6, none⟩ = some (IV 0) := (p 6).trans (by simp [go_sem, letNone])
      have z7 : W.cell? ⟨w.heap.size, 7, none⟩ = some (.bool false) := (p 7).trans (by simp [go_sem, letNone])
      clear hW p q g0 g1 g2 g3 g4 g5 g6 g7
      repeat still_step
      refine wpStill_nil ?_
      go_wp2
      refine bodyPost_ret (v := .tuple #[.agg (letVal ns), .bool true]) ?_ rfl (letPost_yes HOK.out rfl ?_)
      · simp [results, Tryz.results51, go_sem, letVal, z0, z1, z2, z3, z4, z5, z6, z7]
      · exact ((((((((HWD.out.setCell (p := ⟨w.heap.size, 0, none⟩) (Nat.le_refl _) _).setCell (p := ⟨w.heap.size, 1, none⟩) (Nat.le_refl _) _).setCell (p := ⟨w.heap.size, 2, none⟩) (Nat.le_refl _) _).setCell (p := ⟨w.heap.size, 3, none⟩) (Nat.le_refl _) _).setCell (p := ⟨w.heap.size, 4, none⟩) (Nat.le_refl _) _).setCell (p := ⟨w.heap.size, 5, none⟩) (Nat.le_refl _) _).setCell (p := ⟨w.heap.size, 6, none⟩) (Nat.le_refl _) _).setCell (p := ⟨w.heap.size, 7, none⟩) (Nat.le_refl _) _)
    · have HOK := Lib.hid (show letOk ns = false by show (withinB (nth ns 2) 0 255 && withinB (nth ns 7) 0 1) = _; rw [Bool.eq_false_iff.2 h7]; simp)
      have HW2 := Lib.hid h2
      have HW7 := Lib.hid (Bool.eq_false_iff.2 h7)
      clear h2 h7
      go_enter Tryz.func51, Tryz.ntmps51
      go_wp2_with fail
      refine (within_any (nth ns 2) 0 255 _).mono ?_
      rintro e w' ⟨rfl, rfl⟩
      rw [HW2.out]
      go_wp2_with fail
      refine (within_any (nth ns 7) 0 1 _).mono ?_
      rintro e w' ⟨rfl, rfl⟩
      rw [HW7.out]
      go_wp2
      refine bodyPost_ret (v := .tuple #[.agg letNone, .bool false]) ?_ rfl (letPost_no HOK.out rfl ?_)
      · simp [results, Tryz.results51, go_sem, letNone]
      · exact HB.out
  · have HOK := Lib.hid (show letOk ns = false by show (withinB (nth ns 2) 0 255 && withinB (nth ns 7) 0 1) = _; rw [Bool.eq_false_iff.2 h2]; rfl)
    have HW2 := Lib.hid (Bool.eq_false_iff.2 h2)
    clear h2
    go_enter Tryz.func51, Tryz.ntmps51
    go_wp2_with fail
    refine (within_any (nth ns 2) 0 255 _).mono ?_
    rintro e w' ⟨rfl, rfl⟩
    rw [HW2.out]
    go_wp2
    refine bodyPost_ret (v := .tuple #[.agg letNone, .bool false]) ?_ rfl (letPost_no HOK.out rfl ?_)
    · simp [results, Tryz.results51, go_sem, letNone]
    · exact HB.out
end Go.Proofs.YtjamdppihpeijaaGreatDoor
