/- 'SameInts', 'SameRows', 'SameLetters', 'SameBook' and 'SameLog' answer true at two readings of the same. -/
import Derived.Test.YtjamdppihpeijaaGreatDoorRefTop
namespace Go.Proofs.YtjamdppihpeijaaGreatDoor
open Go.RowKit

/-- Elements of some cells each, as they lie. -/
def RdS (w : World) (a : Option Addr) (size : Nat) (xs : List (Array Value)) : Prop :=
  xs = [] ∨ ∃ b o, a = some ⟨b, o, none⟩ ∧ b < w.heap.size ∧ ∀ j x k v, xs[j]? = some x → x[k]? = some v → w.cell? ⟨b, o + j * size + k, none⟩ = some v

theorem sameInts_eq (a1 a2 : Option Addr) (c1 c2 : Nat) (ns : List Int) (w : World) (h1 : Rd (fun n : Int => Value.int .i64 n) w a1 ns) (h2 : Rd (fun n : Int => Value.int .i64 n) w a2 ns) (hn : ns.length ≤ 1000000000) :
    Calls Tryz.prog 20 #[.slice a1 ns.length c1, .slice a2 ns.length c2] w fun e w' => e = .returned (.bool true) ∧ ∃ q, w' = w.drewN q := by
  have H1 := Lib.hid h1
  have H2 := Lib.hid h2
  clear h1 h2
  go_enter Tryz.func20, Tryz.ntmps20
  have hll : ((ns.length : Int) != (ns.length : Int)) = false := by simp
  go_wp2
  clear hll
  go_loopw [5] (fun fr wr => ∃ (k q : Nat), fr = .int .i64 k ∧ k ≤ ns.length ∧ wr = w.drewN q) (fun fr _ => ns.length - (intOf fr).toNat)
  case atStart => exact ⟨0, 0, rfl, Nat.zero_le _, by simp [World.drewN_zero]⟩
  case round =>
    obtain ⟨k, q, rfl, hk, hw⟩ := hrel
    by_cases hlt : k < ns.length
    · obtain ⟨b1, o1, rfl, _, g1⟩ := H1.out.ne (by intro e; subst e; simp at hlt)
      obtain ⟨b2, o2, rfl, _, g2⟩ := H2.out.ne (by intro e; subst e; simp at hlt)
      obtain ⟨x, hx⟩ : ∃ x, ns[k]? = some x := ⟨ns[k], by simp [hlt]⟩
      have r1 : wr.cell? ⟨b1, o1 + k, none⟩ = some (.int .i64 x) := by rw [hw]; exact g1 k x hx
      have r2 : wr.cell? ⟨b2, o2 + k, none⟩ = some (.int .i64 x) := by rw [hw]; exact g2 k x hx
      have hkk : (k : Int) < ns.length := by omega
      have hxx : (x != x) = false := by simp
      have HW := Lib.hid hw
      clear g1 g2 hx hw
      go_wp2_with fail
      go_quiet (fail)
      go_wp2
      go_roundw
      case rel => exact ⟨k + 1, q + nq, by go_num, by omega, by rw [HW.out]; simp⟩
      case measure => simp [intOf]; omega
    · obtain rfl : k = ns.length := by omega
      go_wp2
      go_ret
      exact ⟨rfl, q, rfl⟩

theorem rowCells_get : ∀ (l : List (List Int)) (j k : Nat) (r : List Int), l[j]? = some r → k < 14 → (rowCells l)[j * 14 + k]? = some ((rowVal r).toList.getD k undef)
  | [], j, k, r, h, _ => by simp at h
  | x :: l, 0, k, r, h, hk => by
    obtain rfl : x = r := by simpa using h
    rw [rowCells, List.flatMap_cons, Nat.zero_mul, Nat.zero_add, List.getElem?_append_left (by simpa [rowVal] using hk), List.getElem?_eq_getElem (by simpa [rowVal] using hk), List.getD_eq_getElem?_getD, List.getElem?_eq_getElem (by simpa [rowVal] using hk)]; rfl
  | x :: l, j + 1, k, r, h, hk => by
    rw [rowCells, List.flatMap_cons, List.getElem?_append_right (by simp [rowVal]; omega), show (j + 1) * 14 + k - (rowVal x).toList.length = j * 14 + k by simp [rowVal]; omega]
    exact rowCells_get l j k r (by simpa using h) hk
/-- Rows as they lie. -/
def RdR (w : World) (a : Option Addr) (l : List (List Int)) : Prop :=
  l = [] ∨ ∃ b o, a = some ⟨b, o, none⟩ ∧ b < w.heap.size ∧ ∀ j r k, l[j]? = some r → k < 14 → w.cell? ⟨b, o + (j * 14 + k), none⟩ = some (.int .i64 (nth r k))
theorem owns_cells {w : World} {base : Nat} {e : TypeId} {size : Nat} {v : Value} {n : Nat} {xs : List Value} (h : w.ownsRow base e size v n xs) (hne : 0 < n) :
    ∃ b c, v = .slice (some ⟨b, 0, none⟩) n c ∧ b < w.heap.size ∧ ∀ j x, xs[j]? = some x → w.cell? ⟨b, 0 + j, none⟩ = some x := by
  rcases h.2 with ⟨rfl, h0⟩ | ⟨g, cap, cur, rfl, hb, hg, hn, hm, hs, ht⟩
  · omega
  · refine ⟨g, _, rfl, (Array.getElem?_eq_some_iff.1 hg).1, fun j x hj => ?_⟩
    have := World.ownsRow.cells h (g := g) rfl j x hj
    rw [Nat.zero_add]
    have hadd : (⟨g, 0, none⟩ : Addr).add j = ⟨g, j, none⟩ := by unfold Addr.add; split <;> simp_all
    rwa [hadd] at this
theorem rowVal_get (r : List Int) (k : Nat) (hk : k < 14) : (rowVal r).toList.getD k undef = .int .i64 (nth r k) := by
  match k, hk with
  | 0, _ | 1, _ | 2, _ | 3, _ | 4, _ | 5, _ | 6, _ | 7, _ | 8, _ | 9, _ | 10, _ | 11, _ | 12, _ | 13, _ => rfl
theorem RdR.of_owns {w : World} {base : Nat} {a : Option Addr} {c : Nat} {l : List (List Int)} (h : w.ownsRow base 48 14 (.slice a l.length c) l.length (rowCells l)) : RdR w a l := by
  by_cases hl : l = []
  · exact .inl hl
  · obtain ⟨b, c', e, hb, hc⟩ := owns_cells h (List.length_pos_iff.2 hl)
    cases e
    exact .inr ⟨b, 0, rfl, hb, fun j r k hj hk => hc _ _ (by rw [rowCells_get l j k r hj hk, rowVal_get r k hk])⟩

set_option maxHeartbeats 400000 in
theorem sameRows_eq (a1 a2 : Option Addr) (c1 c2 : Nat) (l : List (List Int)) (w : World) (h1 : RdR w a1 l) (h2 : RdR w a2 l) (hn : l.length ≤ 1000) :
    Calls Tryz.prog 18 #[.slice a1 l.length c1, .slice a2 l.length c2] w fun e w' => e = .returned (.bool true) ∧ ∃ q, w' = w.drewN q := by
  have H1 := Lib.hid h1
  have H2 := Lib.hid h2
  clear h1 h2
  go_enter Tryz.func18, Tryz.ntmps18
  have hll : ((l.length : Int) != (l.length : Int)) = false := by simp
  go_wp2
  clear hll
  go_loopw [5] (fun fr wr => ∃ (k q : Nat), fr = .int .i64 k ∧ k ≤ l.length ∧ wr = w.drewN q) (fun fr _ => l.length - (intOf fr).toNat)
  case atStart => exact ⟨0, 0, rfl, Nat.zero_le _, by simp [World.drewN_zero]⟩
  case round =>
    obtain ⟨k, q, rfl, hk, hw⟩ := hrel
    by_cases hlt : k < l.length
    · obtain ⟨b1, o1, rfl, _, g1⟩ := H1.out.resolve_left (by intro e; subst e; simp at hlt)
      obtain ⟨b2, o2, rfl, _, g2⟩ := H2.out.resolve_left (by intro e; subst e; simp at hlt)
      obtain ⟨x, hx⟩ : ∃ x, l[k]? = some x := ⟨l[k], by simp [hlt]⟩
      have r1 : ∀ i, i < 14 → wr.cell? ⟨b1, o1 + k * 14 + i, none⟩ = some (.int .i64 (nth x i)) := by rw [hw]; exact fun i hi => by rw [Nat.add_assoc]; exact g1 k x i hx hi
      have r2 : ∀ i, i < 14 → wr.cell? ⟨b2, o2 + k * 14 + i, none⟩ = some (.int .i64 (nth x i)) := by rw [hw]; exact fun i hi => by rw [Nat.add_assoc]; exact g2 k x i hx hi
      have hkk : (k : Int) < l.length := by omega
      have HW := Lib.hid hw
      clear g1 g2 hx hw
      have p1_0 : wr.cell? ⟨b1, o1 + k * 14, none⟩ = some (.int .i64 (nth x 0)) := r1 0 (by omega)
      have p1_1 : wr.cell? ⟨b1, o1 + k * 14 + 1, none⟩ = some (.int .i64 (nth x 1)) := r1 1 (by omega)
      have p1_2 : wr.cell? ⟨b1, o1 + k * 14 + 2, none⟩ = some (.int .i64 (nth x 2)) := r1 2 (by omega)
      have p1_3 : wr.cell? ⟨b1, o1 + k * 14 + 3, none⟩ = some (.int .i64 (nth x 3)) := r1 3 (by omega)
      have p1_4 : wr.cell? ⟨b1, o1 + k * 14 + 4, none⟩ = some (.int .i64 (nth x 4)) := r1 4 (by omega)
      have p1_5 : wr.cell? ⟨b1, o1 + k * 14 + 5, none⟩ = some (.int .i64 (nth x 5)) := r1 5 (by omega)
      have p1_6 : wr.cell? ⟨b1, o1 + k * 14 + 6, none⟩ = some (.int .i64 (nth x 6)) := r1 6 (by omega)
      have p1_7 : wr.cell? ⟨b1, o1 + k * 14 + 7, none⟩ = some (.int .i64 (nth x 7)) := r1 7 (by omega)
      have p1_8 : wr.cell? ⟨b1, o1 + k * 14 + 8, none⟩ = some (.int .i64 (nth x 8)) := r1 8 (by omega)
      have p1_9 : wr.cell? ⟨b1, o1 + k * 14 + 9, none⟩ = some (.int .i64 (nth x 9)) := r1 9 (by omega)
      have p1_10 : wr.cell? ⟨b1, o1 + k * 14 + 10, none⟩ = some (.int .i64 (nth x 10)) := r1 10 (by omega)
      have p1_11 : wr.cell? ⟨b1, o1 + k * 14 + 11, none⟩ = some (.int .i64 (nth x 11)) := r1 11 (by omega)
      have p1_12 : wr.cell? ⟨b1, o1 + k * 14 + 12, none⟩ = some (.int .i64 (nth x 12)) := r1 12 (by omega)
      have p1_13 : wr.cell? ⟨b1, o1 + k * 14 + 13, none⟩ = some (.int .i64 (nth x 13)) := r1 13 (by omega)
      have p2_0 : wr.cell? ⟨b2, o2 + k * 14, none⟩ = some (.int .i64 (nth x 0)) := r2 0 (by omega)
      have p2_1 : wr.cell? ⟨b2, o2 + k * 14 + 1, none⟩ = some (.int .i64 (nth x 1)) := r2 1 (by omega)
      have p2_2 : wr.cell? ⟨b2, o2 + k * 14 + 2, none⟩ = some (.int .i64 (nth x 2)) := r2 2 (by omega)
      have p2_3 : wr.cell? ⟨b2, o2 + k * 14 + 3, none⟩ = some (.int .i64 (nth x 3)) := r2 3 (by omega)
      have p2_4 : wr.cell? ⟨b2, o2 + k * 14 + 4, none⟩ = some (.int .i64 (nth x 4)) := r2 4 (by omega)
      have p2_5 : wr.cell? ⟨b2, o2 + k * 14 + 5, none⟩ = some (.int .i64 (nth x 5)) := r2 5 (by omega)
      have p2_6 : wr.cell? ⟨b2, o2 + k * 14 + 6, none⟩ = some (.int .i64 (nth x 6)) := r2 6 (by omega)
      have p2_7 : wr.cell? ⟨b2, o2 + k * 14 + 7, none⟩ = some (.int .i64 (nth x 7)) := r2 7 (by omega)
      have p2_8 : wr.cell? ⟨b2, o2 + k * 14 + 8, none⟩ = some (.int .i64 (nth x 8)) := r2 8 (by omega)
      have p2_9 : wr.cell? ⟨b2, o2 + k * 14 + 9, none⟩ = some (.int .i64 (nth x 9)) := r2 9 (by omega)
      have p2_10 : wr.cell? ⟨b2, o2 + k * 14 + 10, none⟩ = some (.int .i64 (nth x 10)) := r2 10 (by omega)
      have p2_11 : wr.cell? ⟨b2, o2 + k * 14 + 11, none⟩ = some (.int .i64 (nth x 11)) := r2 11 (by omega)
      have p2_12 : wr.cell? ⟨b2, o2 + k * 14 + 12, none⟩ = some (.int .i64 (nth x 12)) := r2 12 (by omega)
      have p2_13 : wr.cell? ⟨b2, o2 + k * 14 + 13, none⟩ = some (.int .i64 (nth x 13)) := r2 13 (by omega)
      clear r1 r2
      go_wp2_with fail
      go_quiet (fail)
      go_wp2
      go_roundw
      case rel => exact ⟨k + 1, q + nq, by go_num, by omega, by rw [HW.out]; simp⟩
      case measure => simp [intOf]; omega
    · obtain rfl : k = l.length := by omega
      go_wp2
      go_ret
      exact ⟨rfl, q, rfl⟩

theorem letCells_get : ∀ (l : List (List Int)) (j k : Nat) (r : List Int), l[j]? = some r → k < 8 → (letCells l)[j * 8 + k]? = some ((letVal r).toList.getD k undef)
  | [], j, k, r, h, _ => by simp at h
  | x :: l, 0, k, r, h, hk => by
    obtain rfl : x = r := by simpa using h
    rw [letCells, List.flatMap_cons, Nat.zero_mul, Nat.zero_add, List.getElem?_append_left (by simpa [letVal] using hk), List.getElem?_eq_getElem (by simpa [letVal] using hk), List.getD_eq_getElem?_getD, List.getElem?_eq_getElem (by simpa [letVal] using hk)]; rfl
  | x :: l, j + 1, k, r, h, hk => by
    rw [letCells, List.flatMap_cons, List.getElem?_append_right (by simp [letVal]; omega), show (j + 1) * 8 + k - (letVal x).toList.length = j * 8 + k by simp [letVal]; omega]
    exact letCells_get l j k r (by simpa using h) hk
/-- Letters as they lie. -/
def RdL (w : World) (a : Option Addr) (l : List (List Int)) : Prop :=
  l = [] ∨ ∃ b o, a = some ⟨b, o, none⟩ ∧ b < w.heap.size ∧ ∀ j r k, l[j]? = some r → k < 8 → w.cell? ⟨b, o + (j * 8 + k), none⟩ = some ((letVal r).toList.getD k undef)
theorem RdL.of_owns {w : World} {base : Nat} {a : Option Addr} {c : Nat} {l : List (List Int)} (h : w.ownsRow base 51 8 (.slice a l.length c) l.length (letCells l)) : RdL w a l := by
  by_cases hl : l = []
  · exact .inl hl
  · obtain ⟨b, c', e, hb, hc⟩ := owns_cells h (List.length_pos_iff.2 hl)
    cases e
    exact .inr ⟨b, 0, rfl, hb, fun j r k hj hk => hc _ _ (letCells_get l j k r hj hk)⟩

set_option maxHeartbeats 400000 in
theorem sameLetters_eq (a1 a2 : Option Addr) (c1 c2 : Nat) (l : List (List Int)) (w : World) (h1 : RdL w a1 l) (h2 : RdL w a2 l) (hn : l.length ≤ 1000) :
    Calls Tryz.prog 19 #[.slice a1 l.length c1, .slice a2 l.length c2] w fun e w' => e = .returned (.bool true) ∧ ∃ q, w' = w.drewN q := by
  have H1 := Lib.hid h1
  have H2 := Lib.hid h2
  clear h1 h2
  go_enter Tryz.func19, Tryz.ntmps19
  have hll : ((l.length : Int) != (l.length : Int)) = false := by simp
  go_wp2
  clear hll
  go_loopw [5] (fun fr wr => ∃ (k q : Nat), fr = .int .i64 k ∧ k ≤ l.length ∧ wr = w.drewN q) (fun fr _ => l.length - (intOf fr).toNat)
  case atStart => exact ⟨0, 0, rfl, Nat.zero_le _, by simp [World.drewN_zero]⟩
  case round =>
    obtain ⟨k, q, rfl, hk, hw⟩ := hrel
    by_cases hlt : k < l.length
    · obtain ⟨b1, o1, rfl, _, g1⟩ := H1.out.resolve_left (by intro e; subst e; simp at hlt)
      obtain ⟨b2, o2, rfl, _, g2⟩ := H2.out.resolve_left (by intro e; subst e; simp at hlt)
      obtain ⟨x, hx⟩ : ∃ x, l[k]? = some x := ⟨l[k], by simp [hlt]⟩
      have r1 : ∀ i, i < 8 → wr.cell? ⟨b1, o1 + k * 8 + i, none⟩ = some ((letVal x).toList.getD i undef) := by rw [hw]; exact fun i hi => by rw [Nat.add_assoc]; exact g1 k x i hx hi
      have r2 : ∀ i, i < 8 → wr.cell? ⟨b2, o2 + k * 8 + i, none⟩ = some ((letVal x).toList.getD i undef) := by rw [hw]; exact fun i hi => by rw [Nat.add_assoc]; exact g2 k x i hx hi
      have hkk : (k : Int) < l.length := by omega
      have HW := Lib.hid hw
      clear g1 g2 hx hw
      have p1_0 : wr.cell? ⟨b1, o1 + k * 8, none⟩ = some (.int .i64 (nth x 0)) := r1 0 (by omega)
      have p1_1 : wr.cell? ⟨b1, o1 + k * 8 + 1, none⟩ = some (.int .i64 (nth x 1)) := r1 1 (by omega)
      have p1_2 : wr.cell? ⟨b1, o1 + k * 8 + 2, none⟩ = some (.int .u8 (nth x 2)) := r1 2 (by omega)
      have p1_3 : wr.cell? ⟨b1, o1 + k * 8 + 3, none⟩ = some (.int .i64 (nth x 3)) := r1 3 (by omega)
      have p1_4 : wr.cell? ⟨b1, o1 + k * 8 + 4, none⟩ = some (.int .i64 (nth x 4)) := r1 4 (by omega)
      have p1_5 : wr.cell? ⟨b1, o1 + k * 8 + 5, none⟩ = some (.int .i64 (nth x 5)) := r1 5 (by omega)
      have p1_6 : wr.cell? ⟨b1, o1 + k * 8 + 6, none⟩ = some (.int .i64 (nth x 6)) := r1 6 (by omega)
      have p1_7 : wr.cell? ⟨b1, o1 + k * 8 + 7, none⟩ = some (.bool (nth x 7 == 1)) := r1 7 (by omega)
      have p2_0 : wr.cell? ⟨b2, o2 + k * 8, none⟩ = some (.int .i64 (nth x 0)) := r2 0 (by omega)
      have p2_1 : wr.cell? ⟨b2, o2 + k * 8 + 1, none⟩ = some (.int .i64 (nth x 1)) := r2 1 (by omega)
      have p2_2 : wr.cell? ⟨b2, o2 + k * 8 + 2, none⟩ = some (.int .u8 (nth x 2)) := r2 2 (by omega)
      have p2_3 : wr.cell? ⟨b2, o2 + k * 8 + 3, none⟩ = some (.int .i64 (nth x 3)) := r2 3 (by omega)
      have p2_4 : wr.cell? ⟨b2, o2 + k * 8 + 4, none⟩ = some (.int .i64 (nth x 4)) := r2 4 (by omega)
      have p2_5 : wr.cell? ⟨b2, o2 + k * 8 + 5, none⟩ = some (.int .i64 (nth x 5)) := r2 5 (by omega)
      have p2_6 : wr.cell? ⟨b2, o2 + k * 8 + 6, none⟩ = some (.int .i64 (nth x 6)) := r2 6 (by omega)
      have p2_7 : wr.cell? ⟨b2, o2 + k * 8 + 7, none⟩ = some (.bool (nth x 7 == 1)) := r2 7 (by omega)
      clear r1 r2
      go_wp2_with fail
      go_quiet (fail)
      go_wp2
      go_roundw
      case rel => exact ⟨k + 1, q + nq, by go_num, by omega, by rw [HW.out]; simp⟩
      case measure => simp [intOf]; omega
    · obtain rfl : k = l.length := by omega
      go_wp2
      go_ret
      exact ⟨rfl, q, rfl⟩

theorem RdR.step {w w' : World} {a : Option Addr} {l : List (List Int)} (h : RdR w a l) (hb : Below w.heap.size w w') : RdR w' a l := by
  rcases h with h | ⟨b, o, rfl, hl, hc⟩
  · exact .inl h
  · exact .inr ⟨b, o, rfl, Nat.lt_of_lt_of_le hl hb.size, fun j r k hj hk => (hb.cell (p := ⟨b, o + (j * 14 + k), none⟩) hl).trans (hc j r k hj hk)⟩
theorem RdL.step {w w' : World} {a : Option Addr} {l : List (List Int)} (h : RdL w a l) (hb : Below w.heap.size w w') : RdL w' a l := by
  rcases h with h | ⟨b, o, rfl, hl, hc⟩
  · exact .inl h
  · exact .inr ⟨b, o, rfl, Nat.lt_of_lt_of_le hl hb.size, fun j r k hj hk => (hb.cell (p := ⟨b, o + (j * 8 + k), none⟩) hl).trans (hc j r k hj hk)⟩
theorem sameBook_eq (a1 a2 a3 a4 : Option Addr) (c1 c2 c3 c4 : Nat) (l m : List (List Int)) (w : World) (h1 : RdR w a1 l) (h2 : RdR w a2 l) (h3 : RdL w a3 m) (h4 : RdL w a4 m) (hn : l.length ≤ 1000) (hm : m.length ≤ 1000) :
    Calls Tryz.prog 8 #[.agg #[.slice a1 l.length c1, .slice a3 m.length c3], .agg #[.slice a2 l.length c2, .slice a4 m.length c4]] w fun e w' => e = .returned (.bool true) ∧ Below w.heap.size w w' := by
  have H1 := Lib.hid h1
  have H2 := Lib.hid h2
  have H3 := Lib.hid h3
  have H4 := Lib.hid h4
  clear h1 h2 h3 h4
  go_enter Tryz.func8, Tryz.ntmps8
  go_wp2_with fail
  refine (sameRows_eq _ _ _ _ l _ ((H1.out.step (below_alloc _ _)).step (below_alloc _ _)) ((H2.out.step (below_alloc _ _)).step (below_alloc _ _)) hn).mono ?_
  rintro e w' ⟨rfl, q, rfl⟩
  go_wp2_with fail
  refine (sameLetters_eq _ _ _ _ m _ (((H3.out.step (below_alloc _ _)).step (below_alloc _ _)).step (below_drewN _ _ _)) (((H4.out.step (below_alloc _ _)).step (below_alloc _ _)).step (below_drewN _ _ _)) hm).mono ?_
  rintro e w' ⟨rfl, q2, rfl⟩
  go_wp2
  go_ret
  exact ⟨rfl, Below.trans (below_then (below_alloc _ _) (below_alloc _ _) (by simp)) (below_drewN _ _ _)⟩

theorem isCmd_le {x : List UInt8} {n : Nat} (h : isCmd x n = true) : n ≤ 14 := by
  have h1 : need x = some n := by simpa [isCmd] using h
  unfold need at h1
  cases hf : cmds.find? (fun p => p.1 == x) with
  | none => rw [hf] at h1; cases h1
  | some p =>
    rw [hf] at h1
    obtain rfl : p.2 = n := by simpa using h1
    have hm := List.mem_of_find?_eq_some hf
    have : ∀ p ∈ cmds, p.2 ≤ 14 := by decide
    exact this p hm
theorem readL_inv {σ : Type} (add : σ → List (List UInt8) → Option σ) (P : σ → Prop) (hadd : ∀ st ws st', P st → add st ws = some st' → P st') : ∀ (f : Nat) (sum : Int) (l : List UInt8) (n : Nat) (st st' : σ), P st → readL add f sum l n st = .ok st' → P st'
  | 0, _, _, _, _, _, _, h => by cases h
  | f + 1, sum, l, n, st, st', hp, h => by
    rw [readL] at h
    split at h
    · cases h
    · rename_i line more hc
      simp only at h
      split at h
      · cases h
      · split at h
        · cases h
        · split at h
          · split at h
            · split at h
              · cases h
              · split at h
                · cases h; exact hp
                · cases h
            · cases h
          · split at h
            · cases h
            · rename_i st2 ha
              split at h
              · exact readL_inv add P hadd f _ _ _ _ _ (hadd _ _ _ hp ha) h
              · cases h
theorem log_args {l : List UInt8} {lg : List En} (h : readTop addLog l [] = .ok lg) : ∀ x ∈ lg, x.args.length ≤ 14 := by
  unfold readTop at h
  split at h
  · cases h
  · refine readL_inv addLog (fun lg => ∀ x ∈ lg, x.args.length ≤ 14) ?_ _ _ _ _ _ _ (by simp) h
    intro st ws st' hp ha
    unfold addLog at ha
    split at ha
    · split at ha
      · split at ha
        · rename_i hc
          cases ha
          intro x hx
          rcases List.mem_append.1 hx with hx | hx
          · exact hp x hx
          · obtain rfl := List.mem_singleton.1 hx; exact isCmd_le hc
        · cases ha
      · cases ha
    · cases ha

/-- Entries as they lie. -/
def RdE (w : World) (a : Option Addr) (l : List En) : Prop :=
  l = [] ∨ ∃ b o, a = some ⟨b, o, none⟩ ∧ b < w.heap.size ∧ ∀ j x, l[j]? = some x → w.cell? ⟨b, o + j * 3, none⟩ = some (.int .i64 x.day) ∧ w.cell? ⟨b, o + j * 3 + 1, none⟩ = some (.string ⟨x.word.toArray⟩) ∧
    ∃ a' c', w.cell? ⟨b, o + j * 3 + 2, none⟩ = some (.slice a' x.args.length c') ∧ Rd (fun n : Int => Value.int .i64 n) w a' x.args
theorem enCells_get {w : World} {base : Nat} : ∀ (cs : List Value) (l : List En) (j : Nat) (x : En), EnCells w base cs l → l[j]? = some x →
    cs[j * 3]? = some (.int .i64 x.day) ∧ cs[j * 3 + 1]? = some (.string ⟨x.word.toArray⟩) ∧ ∃ v, cs[j * 3 + 2]? = some v ∧ w.ownsRow base 3 1 v x.args.length (x.args.map fun n => Value.int .i64 n)
  | [], [], j, x, _, h => by simp at h
  | d :: s :: a :: r, y :: t, 0, x, h, hj => by
    obtain rfl : y = x := by simpa using hj
    obtain ⟨b, hb, hw⟩ := h.2.1
    exact ⟨by rw [h.1]; rfl, by rw [hb, ← hw]; rfl, a, rfl, h.2.2.1⟩
  | d :: s :: a :: r, y :: t, j + 1, x, h, hj => by
    have := enCells_get r t j x h.2.2.2 (by simpa using hj)
    simp only [show (j + 1) * 3 = j * 3 + 3 by omega, show j * 3 + 3 + 1 = j * 3 + 1 + 3 by omega, show j * 3 + 3 + 2 = j * 3 + 2 + 3 by omega]
    exact this
  | [], _ :: _, _, _, h, _ => h.elim
  | [_], [], _, _, h, _ => h.elim
  | [_], _ :: _, _, _, h, _ => h.elim
  | [_, _], [], _, _, h, _ => h.elim
  | [_, _], _ :: _, _, _, h, _ => h.elim
  | _ :: _ :: _ :: _, [], _, _, h, _ => h.elim
theorem RdE.of_owns {w : World} {base : Nat} {a : Option Addr} {c : Nat} {l : List En} {cs : List Value} (h : w.ownsRow base 62 3 (.slice a l.length c) l.length cs) (he : EnCells w base cs l) : RdE w a l := by
  by_cases hl : l = []
  · exact .inl hl
  · obtain ⟨b, c', e, hb, hc⟩ := owns_cells h (List.length_pos_iff.2 hl)
    cases e
    refine .inr ⟨b, 0, rfl, hb, fun j x hj => ?_⟩
    obtain ⟨e0, e1, v, e2, ho⟩ := enCells_get cs l j x he hj
    obtain ⟨a', c', rfl, _, _, hr, _⟩ := Rd.of_owns (enc := fun n : Int => Value.int .i64 n) ho
    exact ⟨hc _ _ e0, by have := hc _ _ e1; rwa [← Nat.add_assoc] at this, a', c', by have := hc _ _ e2; rwa [← Nat.add_assoc] at this, hr⟩
theorem RdE.step {w w' : World} {a : Option Addr} {l : List En} (h : RdE w a l) (hb : Below w.heap.size w w') : RdE w' a l := by
  rcases h with h | ⟨b, o, rfl, hl, hc⟩
  · exact .inl h
  · refine .inr ⟨b, o, rfl, Nat.lt_of_lt_of_le hl hb.size, fun j x hj => ?_⟩
    obtain ⟨e0, e1, a', c', e2, hr⟩ := hc j x hj
    exact ⟨(hb.cell (p := ⟨b, o + j * 3, none⟩) hl).trans e0, (hb.cell (p := ⟨b, o + j * 3 + 1, none⟩) hl).trans e1, a', c', (hb.cell (p := ⟨b, o + j * 3 + 2, none⟩) hl).trans e2, hr.step hb⟩
set_option maxHeartbeats 400000 in
theorem sameLog_eq (a1 a2 : Option Addr) (c1 c2 : Nat) (l : List En) (w : World) (h1 : RdE w a1 l) (h2 : RdE w a2 l) (hn : l.length ≤ 1000) (ha : ∀ x ∈ l, x.args.length ≤ 14) :
    Calls Tryz.prog 9 #[.slice a1 l.length c1, .slice a2 l.length c2] w fun e w' => e = .returned (.bool true) ∧ ∃ q, w' = w.drewN q := by
  have H1 := Lib.hid h1
  have H2 := Lib.hid h2
  have HA := Lib.hid ha
  clear h1 h2 ha
  go_enter Tryz.func9, Tryz.ntmps9
  have hll : ((l.length : Int) != (l.length : Int)) = false := by simp
  go_wp2
  clear hll
  go_loopw [5] (fun fr wr => ∃ (k q : Nat), fr = .int .i64 k ∧ k ≤ l.length ∧ wr = w.drewN q) (fun fr _ => l.length - (intOf fr).toNat)
  case atStart => exact ⟨0, 0, rfl, Nat.zero_le _, by simp [World.drewN_zero]⟩
  case round =>
    obtain ⟨k, q, rfl, hk, hw⟩ := hrel
    by_cases hlt : k < l.length
    · obtain ⟨b1, o1, rfl, _, g1⟩ := H1.out.resolve_left (by intro e; subst e; simp at hlt)
      obtain ⟨b2, o2, rfl, _, g2⟩ := H2.out.resolve_left (by intro e; subst e; simp at hlt)
      obtain ⟨x, hx⟩ : ∃ x, l[k]? = some x := ⟨l[k], by simp [hlt]⟩
      obtain ⟨p0, p1, a3, c3, p2, hr1⟩ := g1 k x hx
      obtain ⟨q0, q1, a4, c4, q2, hr2⟩ := g2 k x hx
      have hxa := HA.out x (List.mem_of_getElem? hx)
      have HC : Hid (∀ n, Calls Tryz.prog 20 #[.slice a3 x.args.length c3, .slice a4 x.args.length c4] (wr.drewN n) fun e w' => e = .returned (.bool true) ∧ ∃ q, w' = (wr.drewN n).drewN q) := Lib.hid (fun n => by
        rw [hw]; exact sameInts_eq a3 a4 c3 c4 x.args _ ((hr1.step (below_drewN _ _ _)).step (below_drewN _ _ _)) ((hr2.step (below_drewN _ _ _)).step (below_drewN _ _ _)) (by omega))
      have r0 : wr.cell? ⟨b1, o1 + k * 3, none⟩ = some (.int .i64 x.day) := by rw [hw]; exact p0
      have r1 : wr.cell? ⟨b1, o1 + k * 3 + 1, none⟩ = some (.string ⟨x.word.toArray⟩) := by rw [hw]; exact p1
      have r2 : wr.cell? ⟨b1, o1 + k * 3 + 2, none⟩ = some (.slice a3 x.args.length c3) := by rw [hw]; exact p2
      have s0 : wr.cell? ⟨b2, o2 + k * 3, none⟩ = some (.int .i64 x.day) := by rw [hw]; exact q0
      have s1 : wr.cell? ⟨b2, o2 + k * 3 + 1, none⟩ = some (.string ⟨x.word.toArray⟩) := by rw [hw]; exact q1
      have s2 : wr.cell? ⟨b2, o2 + k * 3 + 2, none⟩ = some (.slice a4 x.args.length c4) := by rw [hw]; exact q2
      have hxx : (x.day != x.day) = false := by simp
      have hkk : (k : Int) < l.length := by omega
      have HW := Lib.hid hw
      clear g1 g2 hx hw p0 p1 p2 q0 q1 q2 hr1 hr2 hxa
      go_wp2_with fail
      go_quiet ((go_at_call 20; exact Calls.quiet_of (HC.out _)))
      go_wp2
      go_roundw
      case rel => exact ⟨k + 1, q + nq, by go_num, by omega, by rw [HW.out]; simp⟩
      case measure => simp [intOf]; omega
    · obtain rfl : k = l.length := by omega
      go_wp2
      go_ret
      exact ⟨rfl, q, rfl⟩
end Go.Proofs.YtjamdppihpeijaaGreatDoor
