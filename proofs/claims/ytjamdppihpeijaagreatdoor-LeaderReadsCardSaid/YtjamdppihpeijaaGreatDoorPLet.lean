/- The program's 'letterOf' gives the letter of numbers; there are eight. -/
import Derived.Test.YtjamdppihpeijaaGreatDoorPRow
import Derived.Deep.RegionHeld3
namespace Go.Proofs.YtjamdppihpeijaaGreatDoor
open Go.RowKit

def letW (ns : List Int) : Array Value := #[.int .i64 (nth ns 0), .int .i64 (nth ns 1), .int .u8 (IntKind.u8.wrap (nth ns 2)), .int .i64 (nth ns 3), .int .i64 (nth ns 4), .int .i64 (nth ns 5), .int .i64 (nth ns 6), .bool (nth ns 7 == 1)]
theorem cells8 {w : World} {B : Nat} {T : TypeId} {a b c d e f g h : Value} (hB : w.heap[B]? = some (.cells #[a, b, c, d, e, f, g, h] T (0, 0))) :
    (w.cell? ⟨B, 0, none⟩ = some a ∧ w.cell? ⟨B, 1, none⟩ = some b ∧ w.cell? ⟨B, 2, none⟩ = some c ∧ w.cell? ⟨B, 3, none⟩ = some d ∧ w.cell? ⟨B, 4, none⟩ = some e ∧ w.cell? ⟨B, 5, none⟩ = some f ∧ w.cell? ⟨B, 6, none⟩ = some g ∧ w.cell? ⟨B, 7, none⟩ = some h) ∧
    (w.frozen? ⟨B, 0, none⟩ = false ∧ w.frozen? ⟨B, 1, none⟩ = false ∧ w.frozen? ⟨B, 2, none⟩ = false ∧ w.frozen? ⟨B, 3, none⟩ = false ∧ w.frozen? ⟨B, 4, none⟩ = false ∧ w.frozen? ⟨B, 5, none⟩ = false ∧ w.frozen? ⟨B, 6, none⟩ = false ∧ w.frozen? ⟨B, 7, none⟩ = false) :=
  ⟨⟨cell_of hB 0, cell_of hB 1, cell_of hB 2, cell_of hB 3, cell_of hB 4, cell_of hB 5, cell_of hB 6, cell_of hB 7⟩, ⟨free_of hB 0, free_of hB 1, free_of hB 2, free_of hB 3, free_of hB 4, free_of hB 5, free_of hB 6, free_of hB 7⟩⟩
abbrev let0 : Array Value := #[IV 0, IV 0, .int .u8 0, IV 0, IV 0, IV 0, IV 0, .bool false]

theorem cell_keep {W W' : World} {p : Addr} {v : Value} (hb : Below W.heap.size W W') (h : W.cell? p = some v) : W'.cell? p = some v := (hb.cell (World.block_lt_of_cell? W p h)).trans h
theorem from_one (lo hi x : Int) (v : Bool) (hv : allIn lo hi [x] = v) (W W1 : World) (hb : Below W1.heap.size W1 W) :
    Calls Tryz.prog 29 #[.int .i64 lo, .int .i64 hi, .slice (some ⟨W.heap.size, 0, none⟩) 1 1] (W.alloc (.cells #[.int .i64 x] 3)) fun e w' => e = .returned (.bool v) ∧ Below W1.heap.size W1 w' := by
  subst hv
  refine (from_any lo hi _ 1 [x] _ (rd_one (fun n : Int => Value.int .i64 n) W x 3) (by simp)).mono ?_
  rintro e w' ⟨rfl, h⟩
  exact ⟨rfl, below_then (below_then hb (below_alloc _ _) (Nat.le_refl _)) h (Nat.le_refl _)⟩
set_option maxRecDepth 100000 in
set_option maxHeartbeats 1000000 in
theorem pletter_any (a : Option Addr) (c : Nat) (ns : List Int) (w : World) (hr : Rd (fun n : Int => Value.int .i64 n) w a ns) (hn : ns.length = 8) :
    Calls Tryz.prog 14 #[.slice a 8 c] w fun e w' => e = .returned (.tuple #[.agg (letW ns), .bool (letOk ns)]) ∧ Below w.heap.size w w' := by
  obtain ⟨b, o, rfl, hbl, hc⟩ := hr.at_ hn (by omega)
  have HBA := Lib.hid (below_alloc w (.cells let0 51))
  obtain ⟨W0, hW0⟩ : ∃ W0, W0 = (w.alloc (.cells let0 51)) := ⟨_, rfl⟩
  have hbox : W0.heap[w.heap.size]? = some (.cells let0 51 (0, 0)) := by rw [hW0]; exact heap_alloc_new w _
  have hsz : W0.heap.size = w.heap.size + 1 := by rw [hW0]; simp
  rw [← hW0] at HBA
  have hbl0 : b < W0.heap.size := Nat.lt_of_lt_of_le hbl HBA.out.size
  have hc0 := Rd.at_step hbl hc HBA.out
  have r0 : W0.cell? ⟨b, o, none⟩ = some (.int .i64 (nth ns 0)) := hc0 0 (by omega)
  have r1 : W0.cell? ⟨b, o + 1, none⟩ = some (.int .i64 (nth ns 1)) := hc0 1 (by omega)
  have r2 : W0.cell? ⟨b, o + 2, none⟩ = some (.int .i64 (nth ns 2)) := hc0 2 (by omega)
  have r3 : W0.cell? ⟨b, o + 3, none⟩ = some (.int .i64 (nth ns 3)) := hc0 3 (by omega)
  have r4 : W0.cell? ⟨b, o + 4, none⟩ = some (.int .i64 (nth ns 4)) := hc0 4 (by omega)
  have r5 : W0.cell? ⟨b, o + 5, none⟩ = some (.int .i64 (nth ns 5)) := hc0 5 (by omega)
  have r6 : W0.cell? ⟨b, o + 6, none⟩ = some (.int .i64 (nth ns 6)) := hc0 6 (by omega)
  have r7 : W0.cell? ⟨b, o + 7, none⟩ = some (.int .i64 (nth ns 7)) := hc0 7 (by omega)
  have HBOX := Lib.hid hbox
  have HSZ := Lib.hid hsz
  have ne1 : ¬ W0.heap.size = w.heap.size := by omega
  have ne2 : ¬ b = w.heap.size := by omega
  have ne3 : ¬ w.heap.size = W0.heap.size := by omega
  have ne4 : ¬ w.heap.size = b := by omega
  have HC := Lib.hid hc
  have HBL := Lib.hid hbl
  clear hc hc0 hr hn hbox hsz hbl
  go_enter Tryz.func14, Tryz.ntmps14
  go_wp2_with fail
  rw [← hW0]
  clear hW0
  go_region_held3 (fun W => W.cell? ⟨b, o, none⟩ = some (.int .i64 (nth ns 0)) ∧ W.cell? ⟨b, o + 1, none⟩ = some (.int .i64 (nth ns 1)) ∧ W.cell? ⟨b, o + 2, none⟩ = some (.int .i64 (nth ns 2)) ∧ W.cell? ⟨b, o + 3, none⟩ = some (.int .i64 (nth ns 3)) ∧ W.cell? ⟨b, o + 4, none⟩ = some (.int .i64 (nth ns 4)) ∧ W.cell? ⟨b, o + 5, none⟩ = some (.int .i64 (nth ns 5)) ∧ W.cell? ⟨b, o + 6, none⟩ = some (.int .i64 (nth ns 6)) ∧ W.cell? ⟨b, o + 7, none⟩ = some (.int .i64 (nth ns 7))) (go_keep) (fail)
  obtain ⟨W1, hW1⟩ : ∃ W1, W1 = (W0.alloc (.cells #[.int .i64 (nth ns 0), .int .i64 (nth ns 1), .int .u8 (IntKind.u8.wrap (nth ns 2)), .int .i64 (nth ns 3), .int .i64 (nth ns 4), .int .i64 (nth ns 5), .int .i64 (nth ns 6), .bool (nth ns 7 == 1)] 51)).drew := ⟨_, rfl⟩
  have hb1 : Below W0.heap.size W0 W1 := by rw [hW1]; exact ((Below.refl _ _).alloc (Nat.le_refl _) _).drew
  have hbx1 : W1.heap[W0.heap.size]? = some (.cells (letW ns) 51 (0, 0)) := by rw [hW1]; exact heap_alloc_new W0 _
  obtain ⟨⟨q0, q1, q2, q3, q4, q5, q6, q7⟩, _⟩ := cells8 hbx1
  have s2 := cell_keep hb1 r2
  have s7 := cell_keep hb1 r7
  have HBOX1 : Hid (W1.heap[w.heap.size]? = some (.cells let0 51 (0, 0))) := Lib.hid ((hb1.block w.heap.size (by have := HSZ.out; omega)).trans HBOX.out)
  have HB1 : Hid (Below w.heap.size w W1) := Lib.hid (below_then HBA.out hb1 (Nat.le_refl _))
  have HSZ1 : Hid (w.heap.size < W1.heap.size) := Lib.hid (Array.getElem?_eq_some_iff.1 HBOX1.out).1
  rw [← hW1]
  clear hW1 hbx1 hb1 r0 r1 r2 r3 r4 r5 r6 r7 HBOX HBA HC HBL hbl0
  have HS : Hid (∀ W, Below W1.heap.size W1 W → W.cell? ⟨W0.heap.size, 0, none⟩ = some (.int .i64 (nth ns 0)) ∧ W.cell? ⟨W0.heap.size, 1, none⟩ = some (.int .i64 (nth ns 1)) ∧ W.cell? ⟨W0.heap.size, 2, none⟩ = some (.int .u8 (IntKind.u8.wrap (nth ns 2))) ∧ W.cell? ⟨W0.heap.size, 3, none⟩ = some (.int .i64 (nth ns 3)) ∧ W.cell? ⟨W0.heap.size, 4, none⟩ = some (.int .i64 (nth ns 4)) ∧ W.cell? ⟨W0.heap.size, 5, none⟩ = some (.int .i64 (nth ns 5)) ∧ W.cell? ⟨W0.heap.size, 6, none⟩ = some (.int .i64 (nth ns 6)) ∧ W.cell? ⟨W0.heap.size, 7, none⟩ = some (.bool (nth ns 7 == 1)) ∧ W.cell? ⟨b, o + 2, none⟩ = some (.int .i64 (nth ns 2)) ∧ W.cell? ⟨b, o + 7, none⟩ = some (.int .i64 (nth ns 7))) := Lib.hid (fun W hb => ⟨cell_keep hb q0, cell_keep hb q1, cell_keep hb q2, cell_keep hb q3, cell_keep hb q4, cell_keep hb q5, cell_keep hb q6, cell_keep hb q7, cell_keep hb s2, cell_keep hb s7⟩)
  have HX : Hid (∀ W, Below W1.heap.size W1 W → W.heap[w.heap.size]? = some (.cells let0 51 (0, 0))) := Lib.hid (fun W hb => (hb.block w.heap.size HSZ1.out).trans HBOX1.out)
  by_cases h2 : allIn 0 255 [nth ns 2] = true
  · have HOK := Lib.hid (show letOk ns = allIn 0 1 [nth ns 7] by
      unfold letOk; unfold allIn at h2 ⊢; simp only [List.all_cons, List.all_nil, Bool.and_true] at h2 ⊢; rw [h2]; simp)
    have HD : Hid (Below W1.heap.size W1 W1.drew) := Lib.hid ((Below.refl W1.heap.size W1).drew)
    have HCA := Lib.hid (from_one 0 255 (nth ns 2) true h2)
    have HCB := Lib.hid (from_one 0 1 (nth ns 7) _ rfl)
    clear h2
    go_wp2_with fail
    go_region_held3 (fun W => W.cell? ⟨W0.heap.size, 0, none⟩ = some (.int .i64 (nth ns 0)) ∧ W.cell? ⟨W0.heap.size, 1, none⟩ = some (.int .i64 (nth ns 1)) ∧ W.cell? ⟨W0.heap.size, 2, none⟩ = some (.int .u8 (IntKind.u8.wrap (nth ns 2))) ∧ W.cell? ⟨W0.heap.size, 3, none⟩ = some (.int .i64 (nth ns 3)) ∧ W.cell? ⟨W0.heap.size, 4, none⟩ = some (.int .i64 (nth ns 4)) ∧ W.cell? ⟨W0.heap.size, 5, none⟩ = some (.int .i64 (nth ns 5)) ∧ W.cell? ⟨W0.heap.size, 6, none⟩ = some (.int .i64 (nth ns 6)) ∧ W.cell? ⟨W0.heap.size, 7, none⟩ = some (.bool (nth ns 7 == 1)) ∧ W.cell? ⟨b, o + 2, none⟩ = some (.int .i64 (nth ns 2)) ∧ W.cell? ⟨b, o + 7, none⟩ = some (.int .i64 (nth ns 7))) (go_keep) (first
      | (go_at_call 29; refine (HCB.out _ W1 hbA).mono ?_; rintro e w3 ⟨rfl, hbB⟩; have hS3 := HS.out _ hbB; obtain ⟨⟨x0, x1, x2, x3, x4, x5, x6, x7⟩, y0, y1, y2, y3, y4, y5, y6, y7⟩ := cells8 (HX.out _ hbB))
      | (go_at_call 29; refine (HCA.out _ W1 HD.out).mono ?_; rintro e w2 ⟨rfl, hbA⟩; have hS2 := HS.out _ hbA))
    go_wp2
    refine bodyPost_ret (v := .tuple #[.agg (letW ns), .bool (allIn 0 1 [nth ns 7])]) ?_ rfl ⟨by rw [HOK.out], ?_⟩
    · simp [results, Tryz.results14, go_sem, letW, x0, x1, x2, x3, x4, x5, x6, x7]
    · exact (((((((((HB1.out.trans (hbB.mono HB1.out.size)).setCell (p := ⟨w.heap.size, 0, none⟩) (Nat.le_refl _) _).setCell (p := ⟨w.heap.size, 1, none⟩) (Nat.le_refl _) _).setCell (p := ⟨w.heap.size, 2, none⟩) (Nat.le_refl _) _).setCell (p := ⟨w.heap.size, 3, none⟩) (Nat.le_refl _) _).setCell (p := ⟨w.heap.size, 4, none⟩) (Nat.le_refl _) _).setCell (p := ⟨w.heap.size, 5, none⟩) (Nat.le_refl _) _).setCell (p := ⟨w.heap.size, 6, none⟩) (Nat.le_refl _) _).setCell (p := ⟨w.heap.size, 7, none⟩) (Nat.le_refl _) _)
  · have h2' := Bool.eq_false_iff.2 h2
    have HOK := Lib.hid (show letOk ns = false by
      unfold letOk; unfold allIn at h2'; simp only [List.all_cons, List.all_nil, Bool.and_true] at h2'; rw [h2']; rfl)
    have HD : Hid (Below W1.heap.size W1 W1.drew) := Lib.hid ((Below.refl W1.heap.size W1).drew)
    have HCA := Lib.hid (from_one 0 255 (nth ns 2) false h2')
    clear h2 h2'
    go_wp2_with fail
    refine wp_region_held_drew (S := (fun W => W.cell? ⟨W0.heap.size, 0, none⟩ = some (.int .i64 (nth ns 0)) ∧ W.cell? ⟨W0.heap.size, 1, none⟩ = some (.int .i64 (nth ns 1)) ∧ W.cell? ⟨W0.heap.size, 2, none⟩ = some (.int .u8 (IntKind.u8.wrap (nth ns 2))) ∧ W.cell? ⟨W0.heap.size, 3, none⟩ = some (.int .i64 (nth ns 3)) ∧ W.cell? ⟨W0.heap.size, 4, none⟩ = some (.int .i64 (nth ns 4)) ∧ W.cell? ⟨W0.heap.size, 5, none⟩ = some (.int .i64 (nth ns 5)) ∧ W.cell? ⟨W0.heap.size, 6, none⟩ = some (.int .i64 (nth ns 6)) ∧ W.cell? ⟨W0.heap.size, 7, none⟩ = some (.bool (nth ns 7 == 1)) ∧ W.cell? ⟨b, o + 2, none⟩ = some (.int .i64 (nth ns 2)) ∧ W.cell? ⟨b, o + 7, none⟩ = some (.int .i64 (nth ns 7)))) (by kernel_rfl) (HS.out _ HD.out) (fun hHeld => ?_)
    refine wpAnyH_take (i := 0) (oi := ⟨some 32, _, _, _, _, _⟩) (v := ?_) rfl (by kernel_rfl) (by kernel_rfl) (by kernel_rfl) (fun _ _ _ h => h) (Or.inl ⟨by rfl, ?_⟩) (by assumption) ?_
    rotate_left 1
    · (intro w hSw; (try dsimp only at hSw); go_simp; (try with_reducible rfl))
    simp only [Act.put, List.setIfInBounds_toArray, List.set_cons_zero, List.set_cons_succ]
    refine wpAnyH_take (i := 1) (oi := ⟨some 33, _, _, _, _, _⟩) (v := ?_) rfl (by kernel_rfl) (by kernel_rfl) (by kernel_rfl) (fun _ _ _ h => h) (Or.inl ⟨by rfl, ?_⟩) (by assumption) ?_
    rotate_left 1
    · (intro w hSw; (try dsimp only at hSw); go_simp; (try with_reducible rfl))
    simp only [Act.put, List.setIfInBounds_toArray, List.set_cons_zero, List.set_cons_succ]
    refine wpAnyH_take (i := 2) (oi := ⟨some 34, _, _, _, _, _⟩) (v := ?_) rfl (by kernel_rfl) (by kernel_rfl) (by kernel_rfl) (fun _ _ _ h => h) (Or.inl ⟨by rfl, ?_⟩) (by assumption) ?_
    rotate_left 1
    · (intro w hSw; (try dsimp only at hSw); go_simp; (try with_reducible rfl))
    simp only [Act.put, List.setIfInBounds_toArray, List.set_cons_zero, List.set_cons_succ]
    refine wpAnyH_take (i := 3) (oi := ⟨some 35, _, _, _, _, _⟩) (v := ?_) rfl (by kernel_rfl) (by kernel_rfl) (by kernel_rfl) (fun _ _ _ h => h) (Or.inl ⟨by rfl, ?_⟩) (by assumption) ?_
    rotate_left 1
    · (intro w hSw; (try dsimp only at hSw); go_simp; (try with_reducible rfl))
    simp only [Act.put, List.setIfInBounds_toArray, List.set_cons_zero, List.set_cons_succ]
    refine wpAnyH_ready (rs := [4]) (by kernel_rfl) (by simp) ?_
    refine AllReadyH.cons rfl (fun K' hK => ?_) AllReadyH.nil
    go_simp
    refine hK.out _ _ (HS.out _ (HD.out.alloc (Nat.le_refl _) _)) (fun hHeld4 => ?_)
    clear hK K'
    refine wpAnyH_ready (rs := [5]) (by kernel_rfl) (by simp) ?_
    refine AllReadyH.cons rfl (fun K' hK => ?_) AllReadyH.nil
    go_simp
    refine (HCA.out _ W1 HD.out).mono ?_
    rintro e w3 ⟨rfl, hbB⟩
    have hS3 := HS.out _ hbB
    obtain ⟨⟨x0, x1, x2, x3, x4, x5, x6, x7⟩, y0, y1, y2, y3, y4, y5, y6, y7⟩ := cells8 (HX.out _ hbB)
    refine hK.out _ _ hS3 (fun hHeld5 => ?_)
    clear hK K'
    refine wpAnyH_take (i := 6) (oi := ⟨some 38, _, _, _, _, _⟩) (v := ?_) rfl (by kernel_rfl) (by kernel_rfl) (by kernel_rfl) (fun _ _ _ h => h) (Or.inl ⟨by rfl, ?_⟩) (by assumption) ?_
    rotate_left 1
    · (intro w hSw; (try dsimp only at hSw); go_simp; (try with_reducible rfl))
    simp only [Act.put, List.setIfInBounds_toArray, List.set_cons_zero, List.set_cons_succ]
    refine wpAnyH_take (i := 7) (oi := ⟨some 39, _, _, _, _, _⟩) (v := undef) rfl (by kernel_rfl) (by kernel_rfl) (by kernel_rfl) (fun _ _ _ h => h) (Or.inr ⟨by rfl, rfl⟩) (by assumption) ?_
    simp only [Act.put, List.setIfInBounds_toArray, List.set_cons_zero, List.set_cons_succ]
    refine wpAnyH_take (i := 8) (oi := ⟨some 40, _, _, _, _, _⟩) (v := undef) rfl (by kernel_rfl) (by kernel_rfl) (by kernel_rfl) (fun _ _ _ h => h) (Or.inr ⟨by rfl, rfl⟩) (by assumption) ?_
    simp only [Act.put, List.setIfInBounds_toArray, List.set_cons_zero, List.set_cons_succ]
    refine wpAnyH_take (i := 9) (oi := ⟨some 41, _, _, _, _, _⟩) (v := undef) rfl (by kernel_rfl) (by kernel_rfl) (by kernel_rfl) (fun _ _ _ h => h) (Or.inr ⟨by rfl, rfl⟩) (by assumption) ?_
    simp only [Act.put, List.setIfInBounds_toArray, List.set_cons_zero, List.set_cons_succ]
    refine wpAnyH_take (i := 10) (oi := ⟨some 42, _, _, _, _, _⟩) (v := undef) rfl (by kernel_rfl) (by kernel_rfl) (by kernel_rfl) (fun _ _ _ h => h) (Or.inr ⟨by rfl, rfl⟩) (by assumption) ?_
    simp only [Act.put, List.setIfInBounds_toArray, List.set_cons_zero, List.set_cons_succ]
    refine wpAnyH_take (i := 11) (oi := ⟨some 43, _, _, _, _, _⟩) (v := undef) rfl (by kernel_rfl) (by kernel_rfl) (by kernel_rfl) (fun _ _ _ h => h) (Or.inr ⟨by rfl, rfl⟩) (by assumption) ?_
    simp only [Act.put, List.setIfInBounds_toArray, List.set_cons_zero, List.set_cons_succ]
    refine wpAnyH_take (i := 12) (oi := ⟨some 44, _, _, _, _, _⟩) (v := ?_) rfl (by kernel_rfl) (by kernel_rfl) (by kernel_rfl) (fun _ _ _ h => h) (Or.inl ⟨by rfl, ?_⟩) (by assumption) ?_
    rotate_left 1
    · (intro w hSw; (try dsimp only at hSw); go_simp; (try with_reducible rfl))
    simp only [Act.put, List.setIfInBounds_toArray, List.set_cons_zero, List.set_cons_succ]
    refine wpAnyH_ready (rs := [13]) (by kernel_rfl) (by simp) ?_
    refine AllReadyH.cons rfl (fun K' hK => ?_) AllReadyH.nil
    clear hHeld hHeld4 hS3
    go_simp
    refine hK.out _ _ (by (try dsimp only); go_split_ands; all_goals go_keep) (fun hHeld13 => ?_)
    clear hK K'
    refine wpAnyH_take (i := 14) (oi := ⟨some 3, _, _, _, _, _⟩) (v := ?_) rfl (by kernel_rfl) (by kernel_rfl) (by kernel_rfl) (fun _ _ _ h => h) (Or.inl ⟨by rfl, ?_⟩) (by assumption) ?_
    rotate_left 1
    · (intro w hSw; (try dsimp only at hSw); go_simp; (try with_reducible rfl))
    simp only [Act.put, List.setIfInBounds_toArray, List.set_cons_zero, List.set_cons_succ]
    refine wpAnyH_done (by kernel_rfl) ?_ _
    go_wp2
    refine bodyPost_ret (v := .tuple #[.agg (letW ns), .bool false]) ?_ rfl ⟨by rw [HOK.out], ?_⟩
    · simp [results, Tryz.results14, go_sem, letW, x0, x1, x2, x3, x4, x5, x6, x7]
    · exact (((((((((HB1.out.trans (hbB.mono HB1.out.size)).setCell (p := ⟨w.heap.size, 0, none⟩) (Nat.le_refl _) _).setCell (p := ⟨w.heap.size, 1, none⟩) (Nat.le_refl _) _).setCell (p := ⟨w.heap.size, 2, none⟩) (Nat.le_refl _) _).setCell (p := ⟨w.heap.size, 3, none⟩) (Nat.le_refl _) _).setCell (p := ⟨w.heap.size, 4, none⟩) (Nat.le_refl _) _).setCell (p := ⟨w.heap.size, 5, none⟩) (Nat.le_refl _) _).setCell (p := ⟨w.heap.size, 6, none⟩) (Nat.le_refl _) _).setCell (p := ⟨w.heap.size, 7, none⟩) (Nat.le_refl _) _)
end Go.Proofs.YtjamdppihpeijaaGreatDoor
