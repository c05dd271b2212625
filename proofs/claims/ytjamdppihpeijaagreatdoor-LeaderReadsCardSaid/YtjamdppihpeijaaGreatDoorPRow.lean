/- The program's 'span', 'rowOf' and 'letterOf' give the row, and the letter, of numbers; there are as many numbers as they read. -/
import Derived.Test.YtjamdppihpeijaaGreatDoorRefAcc
import Derived.Test.YtjamdppihpeijaaGreatDoorPLeaf
namespace Go.Proofs.YtjamdppihpeijaaGreatDoor
open Go.RowKit

theorem pspan_any (b o n c : Nat) (x y : Int) (w : World) (hk : 2 ≤ n) (hn : n ≤ 1000000000) (h0 : w.cell? ⟨b, o, none⟩ = some (.int .i64 x)) (h1 : w.cell? ⟨b, o + 1, none⟩ = some (.int .i64 y)) :
    Calls Tryz.prog 28 #[.slice (some ⟨b, o, none⟩) n c] w fun e w' => e = .returned (.agg #[.int .i64 x, .int .i64 y]) ∧ Below w.heap.size w w' := by
  have hbl : b < w.heap.size := World.block_lt_of_cell? w ⟨b, o, none⟩ h0
  have g0 : (w.alloc (.cells #[IV 0, IV 0] 46)).cell? ⟨b, o, none⟩ = some (.int .i64 x) := ((below_alloc w _).cell (p := ⟨b, o, none⟩) hbl).trans h0
  have g1 : (w.alloc (.cells #[IV 0, IV 0] 46)).cell? ⟨b, o + 1, none⟩ = some (.int .i64 y) := ((below_alloc w _).cell (p := ⟨b, o + 1, none⟩) hbl).trans h1
  go_enter Tryz.func28, Tryz.ntmps28
  go_wp2
  go_region
  go_wp2
  exact bodyPost_ret (v := .agg #[.int .i64 x, .int .i64 y]) (by simp [results, Tryz.results28, go_sem]) rfl ⟨rfl, ((Below.refl _ _).alloc (Nat.le_refl _) _).drew⟩

theorem pspan_nth (b o n c k o' : Nat) (ns : List Int) (w w0 : World) (ho : o' = o + k) (hb : Below w0.heap.size w0 w) (hbl : b < w0.heap.size) (hc : ∀ k, k < 14 → w0.cell? ⟨b, o + k, none⟩ = some (.int .i64 (nth ns k))) (hk : k + 1 < 14) (h2 : 2 ≤ n) (hn : n ≤ 1000000000) :
    Calls Tryz.prog 28 #[.slice (some ⟨b, o', none⟩) n c] w fun e w' => e = .returned (.agg #[IV (nth ns k), IV (nth ns (k + 1))]) ∧ Below w0.heap.size w0 w' := by
  subst ho
  have h := Rd.at_step hbl hc hb
  exact (pspan_any b (o + k) n c _ _ w h2 hn (h k (by omega)) (h (k + 1) hk)).mono fun e w' ⟨he, hw⟩ => ⟨he, below_then hb hw (Nat.le_refl _)⟩
theorem cells14 {w : World} {B : Nat} {T : TypeId} (h : w.heap[B]? = some (.cells #[IV 0, IV 0, IV 0, IV 0, IV 0, IV 0, IV 0, IV 0, IV 0, IV 0, IV 0, IV 0, IV 0, IV 0] T (0, 0))) :
    w.cell? ⟨B, 0, none⟩ = some (.int .i64 0) ∧ w.frozen? ⟨B, 0, none⟩ = false ∧ w.cell? ⟨B, 1, none⟩ = some (.int .i64 0) ∧ w.frozen? ⟨B, 1, none⟩ = false ∧ w.cell? ⟨B, 2, none⟩ = some (.int .i64 0) ∧ w.frozen? ⟨B, 2, none⟩ = false ∧ w.cell? ⟨B, 3, none⟩ = some (.int .i64 0) ∧ w.frozen? ⟨B, 3, none⟩ = false ∧ w.cell? ⟨B, 4, none⟩ = some (.int .i64 0) ∧ w.frozen? ⟨B, 4, none⟩ = false ∧ w.cell? ⟨B, 5, none⟩ = some (.int .i64 0) ∧ w.frozen? ⟨B, 5, none⟩ = false ∧ w.cell? ⟨B, 6, none⟩ = some (.int .i64 0) ∧ w.frozen? ⟨B, 6, none⟩ = false ∧ w.cell? ⟨B, 7, none⟩ = some (.int .i64 0) ∧ w.frozen? ⟨B, 7, none⟩ = false ∧ w.cell? ⟨B, 8, none⟩ = some (.int .i64 0) ∧ w.frozen? ⟨B, 8, none⟩ = false ∧ w.cell? ⟨B, 9, none⟩ = some (.int .i64 0) ∧ w.frozen? ⟨B, 9, none⟩ = false ∧ w.cell? ⟨B, 10, none⟩ = some (.int .i64 0) ∧ w.frozen? ⟨B, 10, none⟩ = false ∧ w.cell? ⟨B, 11, none⟩ = some (.int .i64 0) ∧ w.frozen? ⟨B, 11, none⟩ = false ∧ w.cell? ⟨B, 12, none⟩ = some (.int .i64 0) ∧ w.frozen? ⟨B, 12, none⟩ = false ∧ w.cell? ⟨B, 13, none⟩ = some (.int .i64 0) ∧ w.frozen? ⟨B, 13, none⟩ = false :=
  ⟨cell_of h 0, free_of h 0, cell_of h 1, free_of h 1, cell_of h 2, free_of h 2, cell_of h 3, free_of h 3, cell_of h 4, free_of h 4, cell_of h 5, free_of h 5, cell_of h 6, free_of h 6, cell_of h 7, free_of h 7, cell_of h 8, free_of h 8, cell_of h 9, free_of h 9, cell_of h 10, free_of h 10, cell_of h 11, free_of h 11, cell_of h 12, free_of h 12, cell_of h 13, free_of h 13⟩
set_option maxRecDepth 100000 in
set_option maxHeartbeats 1000000 in
theorem prow_any (a : Option Addr) (c : Nat) (ns : List Int) (w : World) (hr : Rd (fun n : Int => Value.int .i64 n) w a ns) (hn : ns.length = 14) (hcap : 14 ≤ c) :
    Calls Tryz.prog 13 #[.slice a 14 c] w fun e w' => e = .returned (.agg (rowVal ns)) ∧ Below w.heap.size w w' := by
  obtain ⟨b, o, rfl, hbl, hc⟩ := hr.at_ hn (by omega)
  have HBA := Lib.hid (below_alloc w (.cells #[IV 0, IV 0, IV 0, IV 0, IV 0, IV 0, IV 0, IV 0, IV 0, IV 0, IV 0, IV 0, IV 0, IV 0] 48))
  obtain ⟨W0, hW0⟩ : ∃ W0, W0 = (w.alloc (.cells #[IV 0, IV 0, IV 0, IV 0, IV 0, IV 0, IV 0, IV 0, IV 0, IV 0, IV 0, IV 0, IV 0, IV 0] 48)) := ⟨_, rfl⟩
  have hbox : W0.heap[w.heap.size]? = some (.cells #[IV 0, IV 0, IV 0, IV 0, IV 0, IV 0, IV 0, IV 0, IV 0, IV 0, IV 0, IV 0, IV 0, IV 0] 48 (0, 0)) := by rw [hW0]; exact heap_alloc_new w _
  rw [← hW0] at HBA
  have hbl0 : b < W0.heap.size := Nat.lt_of_lt_of_le hbl HBA.out.size
  have HC := Lib.hid (Rd.at_step hbl hc HBA.out)
  have hBR : w.heap.size < W0.heap.size := (Array.getElem?_eq_some_iff.1 hbox).1
  have HBOX := Lib.hid hbox
  have HD := Lib.hid ((Below.refl W0.heap.size W0).drew)
  have hcI : (14 : Int) ≤ c := by omega
  have n2 : ¬ c = 2 := by omega
  have n4 : ¬ c = 4 := by omega
  have n6 : ¬ c = 6 := by omega
  have n8 : ¬ c = 8 := by omega
  have n10 : ¬ c = 10 := by omega
  have n12 : ¬ c = 12 := by omega
  clear hc hr hn hbox
  go_enter Tryz.func13, Tryz.ntmps13
  go_wp2_with fail
  rw [← hW0]
  clear hW0
  go_region_law (first
    | (go_simp; go_at_call 28; refine (pspan_nth b o _ _ 12 _ ns _ _ rfl hb6 hbl0 HC.out (by omega) (by omega) (by omega)).mono ?_; rintro e w7 ⟨rfl, hb7⟩; have hbx := (hb7.block w.heap.size hBR).trans HBOX.out; obtain ⟨x0, y0, x1, y1, x2, y2, x3, y3, x4, y4, x5, y5, x6, y6, x7, y7, x8, y8, x9, y9, x10, y10, x11, y11, x12, y12, x13, y13⟩ := cells14 hbx)
    | (go_simp; go_at_call 28; refine (pspan_nth b o _ _ 10 _ ns _ _ rfl hb5 hbl0 HC.out (by omega) (by omega) (by omega)).mono ?_; rintro e w6 ⟨rfl, hb6⟩)
    | (go_simp; go_at_call 28; refine (pspan_nth b o _ _ 8 _ ns _ _ rfl hb4 hbl0 HC.out (by omega) (by omega) (by omega)).mono ?_; rintro e w5 ⟨rfl, hb5⟩)
    | (go_simp; go_at_call 28; refine (pspan_nth b o _ _ 6 _ ns _ _ rfl hb3 hbl0 HC.out (by omega) (by omega) (by omega)).mono ?_; rintro e w4 ⟨rfl, hb4⟩)
    | (go_simp; go_at_call 28; refine (pspan_nth b o _ _ 4 _ ns _ _ rfl hb2 hbl0 HC.out (by omega) (by omega) (by omega)).mono ?_; rintro e w3 ⟨rfl, hb3⟩)
    | (go_simp; go_at_call 28; refine (pspan_nth b o _ _ 2 _ ns _ _ rfl hb1 hbl0 HC.out (by omega) (by omega) (by omega)).mono ?_; rintro e w2 ⟨rfl, hb2⟩)
    | (go_simp; go_at_call 28; refine (pspan_nth b o _ _ 0 _ ns _ _ rfl HD.out hbl0 HC.out (by omega) (by omega) (by omega)).mono ?_; rintro e w1 ⟨rfl, hb1⟩))
  have HB7 := Lib.hid (below_then HBA.out hb7 (Nat.le_refl _))
  go_wp2
  refine bodyPost_ret (v := .agg (rowVal ns)) ?_ rfl ⟨rfl, ?_⟩
  · simp [results, Tryz.results13, go_sem, rowVal, x0, x1, x2, x3, x4, x5, x6, x7, x8, x9, x10, x11, x12, x13]
  · exact ((((((((((((((HB7.out.setCell (p := ⟨w.heap.size, 0, none⟩) (Nat.le_refl _) _).setCell (p := ⟨w.heap.size, 1, none⟩) (Nat.le_refl _) _).setCell (p := ⟨w.heap.size, 2, none⟩) (Nat.le_refl _) _).setCell (p := ⟨w.heap.size, 3, none⟩) (Nat.le_refl _) _).setCell (p := ⟨w.heap.size, 4, none⟩) (Nat.le_refl _) _).setCell (p := ⟨w.heap.size, 5, none⟩) (Nat.le_refl _) _).setCell (p := ⟨w.heap.size, 6, none⟩) (Nat.le_refl _) _).setCell (p := ⟨w.heap.size, 7, none⟩) (Nat.le_refl _) _).setCell (p := ⟨w.heap.size, 8, none⟩) (Nat.le_refl _) _).setCell (p := ⟨w.heap.size, 9, none⟩) (Nat.le_refl _) _).setCell (p := ⟨w.heap.size, 10, none⟩) (Nat.le_refl _) _).setCell (p := ⟨w.heap.size, 11, none⟩) (Nat.le_refl _) _).setCell (p := ⟨w.heap.size, 12, none⟩) (Nat.le_refl _) _).setCell (p := ⟨w.heap.size, 13, none⟩) (Nat.le_refl _) _)
end Go.Proofs.YtjamdppihpeijaaGreatDoor
