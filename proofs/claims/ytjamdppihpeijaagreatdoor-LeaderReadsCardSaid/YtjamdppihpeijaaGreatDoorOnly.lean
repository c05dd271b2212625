/- 'Only O': nothing has turned but the blocks of O and what is new; how books and logs lie in memory; no condition. -/
import Derived.Test.YtjamdppihpeijaaGreatDoorRd
import Derived.Test.YtjamdppihpeijaaGreatDoorSpec
namespace Go.Proofs.YtjamdppihpeijaaGreatDoor
open Go.RowKit

structure Only (O : Nat → Prop) (w w' : World) : Prop where
  os : w'.os = w.os
  tape : w'.tape = w.tape
  output : w'.output = w.output
  size : w.heap.size ≤ w'.heap.size
  block : ∀ k, k < w.heap.size → ¬ O k → w'.heap[k]? = w.heap[k]?
theorem Only.refl (O : Nat → Prop) (w : World) : Only O w w := ⟨rfl, rfl, rfl, Nat.le_refl _, fun _ _ _ => rfl⟩
theorem Only.of_below {O : Nat → Prop} {w w' : World} (h : Below w.heap.size w w') : Only O w w' := ⟨h.os, h.tape, h.output, h.size, fun k hk _ => h.block k hk⟩
theorem Only.trans {O O1 : Nat → Prop} {w w1 w2 : World} (h : Only O w w1) (h2 : Only O1 w1 w2) (hO : ∀ k, k < w.heap.size → O1 k → O k) : Only O w w2 :=
  ⟨h2.os.trans h.os, h2.tape.trans h.tape, h2.output.trans h.output, Nat.le_trans h.size h2.size, fun k hk hn => (h2.block k (Nat.lt_of_lt_of_le hk h.size) (fun e => hn (hO k hk e))).trans (h.block k hk hn)⟩
theorem Only.then_below {O : Nat → Prop} {w w1 w2 : World} (h : Only O w w1) (h2 : Below w1.heap.size w1 w2) : Only O w w2 :=
  h.trans (O1 := fun _ => False) (Only.of_below h2) (fun _ _ h => h.elim)
theorem Only.alloc {O : Nat → Prop} {w w1 : World} (h : Only O w w1) (o : Obj) : Only O w (w1.alloc o) := h.then_below (below_alloc w1 o)
theorem Only.setCell {O : Nat → Prop} {w w1 : World} (h : Only O w w1) {a : Addr} (ha : O a.block ∨ w.heap.size ≤ a.block) (v : Value) : Only O w (w1.setCell a v) :=
  ⟨h.os, h.tape, h.output, by simp [World.setCell]; exact h.size, fun k hk hn => by
    rw [Below.heap_setCell _ _ _ _ (by intro e; subst e; rcases ha with ha | ha; exact hn ha; omega)]; exact h.block k hk hn⟩
theorem Only.grown {O : Nat → Prop} {w w1 w2 : World} (h : Only O w w1) {row : Option Nat} (hg : w1.grownBy w2 row) (hr : ∀ k, row = some k → O k ∨ w.heap.size ≤ k) : Only O w w2 :=
  ⟨hg.os.trans h.os, hg.tape.trans h.tape, hg.output.trans h.output, Nat.le_trans h.size hg.size, fun k hk hn => by
    rw [hg.block k (Nat.lt_of_lt_of_le hk h.size) (fun e => by rcases hr k e.symm with h1 | h1; exact hn h1; omega)]; exact h.block k hk hn⟩
theorem Only.below {O : Nat → Prop} {w w' : World} {B : Nat} (h : Only O w w') (hO : ∀ k, O k → B ≤ k) (hB : B ≤ w.heap.size) : Below B w w' :=
  ⟨h.os, h.tape, h.output, h.size, fun k hk => h.block k (by omega) (fun e => by have := hO k e; omega)⟩

/-- An owned row's value is a slice of as many elements. -/
theorem owns_slice {w : World} {base : Nat} {e : TypeId} {size : Nat} {v : Value} {n : Nat} {xs : List Value} (h : w.ownsRow base e size v n xs) : ∃ a c, v = .slice a n c := by
  rcases h.2 with ⟨rfl, rfl⟩ | ⟨g, cap, cur, rfl, _⟩
  · exact ⟨none, 0, rfl⟩
  · exact ⟨_, _, rfl⟩
theorem owns_block {w : World} {base : Nat} {e : TypeId} {size : Nat} {v : Value} {n : Nat} {xs : List Value} (h : w.ownsRow base e size v n xs) {k : Nat} (hk : v.ownBlock = some k) :
    base ≤ k ∧ k < w.heap.size ∧ ∃ cur, w.heap[k]? = some (.cells cur e (0, 0)) := by
  rcases h.2 with ⟨rfl, _⟩ | ⟨g, cap, cur, rfl, hb, hg, _⟩
  · simp [Value.ownBlock] at hk
  · obtain rfl : g = k := by simpa [Value.ownBlock] using hk
    exact ⟨hb, (Array.getElem?_eq_some_iff.1 hg).1, cur, hg⟩
/-- Rows of two types lie in two blocks. -/
theorem owns_ne {w : World} {b1 b2 : Nat} {e1 e2 : TypeId} {s1 s2 : Nat} {v1 v2 : Value} {n1 n2 : Nat} {x1 x2 : List Value} (h1 : w.ownsRow b1 e1 s1 v1 n1 x1) (h2 : w.ownsRow b2 e2 s2 v2 n2 x2) (he : e1 ≠ e2) : v1.ownBlock = none ∨ v1.ownBlock ≠ v2.ownBlock := by
  cases hk : v1.ownBlock with
  | none => exact .inl rfl
  | some k =>
    refine .inr fun e => ?_
    obtain ⟨_, _, c1, hc1⟩ := owns_block h1 hk
    obtain ⟨_, _, c2, hc2⟩ := owns_block h2 e.symm
    rw [hc1] at hc2
    injection hc2 with hc2; injection hc2 with _ he2 _; exact he he2
theorem owns_box {w : World} {b1 : Nat} {e1 T : TypeId} {s1 : Nat} {v1 : Value} {n1 B : Nat} {x1 : List Value} {cs : Array Value} (h1 : w.ownsRow b1 e1 s1 v1 n1 x1) (hB : w.heap[B]? = some (.cells cs T (0, 0))) (he : e1 ≠ T) : v1.ownBlock ≠ some B := by
  intro hk
  obtain ⟨_, _, c1, hc1⟩ := owns_block h1 hk
  rw [hB] at hc1
  injection hc1 with hc1; injection hc1 with _ he2 _; exact he he2.symm
/-- An owned row stays while another block's cell is written. -/
theorem owns_setCell {w : World} {base : Nat} {e : TypeId} {size : Nat} {v : Value} {n : Nat} {xs : List Value} (h : w.ownsRow base e size v n xs) {a : Addr} (ha : v.ownBlock ≠ some a.block) (u : Value) : (w.setCell a u).ownsRow base e size v n xs := by
  refine ⟨h.1, ?_⟩
  rcases h.2 with hn | ⟨g, cap, cur, rfl, hb, hgg, rest⟩
  · exact .inl hn
  · refine .inr ⟨g, cap, cur, rfl, hb, ?_, rest⟩
    rw [Below.heap_setCell _ _ _ _ (by intro e; subst e; exact ha rfl)]; exact hgg
theorem owns_only {w w' : World} {O : Nat → Prop} {base : Nat} {e : TypeId} {size : Nat} {v : Value} {n : Nat} {xs : List Value} (h : w.ownsRow base e size v n xs) (ho : Only O w w') (hn : ∀ k, v.ownBlock = some k → ¬ O k) : w'.ownsRow base e size v n xs := by
  refine ⟨h.1, ?_⟩
  rcases h.2 with hh | ⟨g, cap, cur, rfl, hb, hgg, rest⟩
  · exact .inl hh
  · exact .inr ⟨g, cap, cur, rfl, hb, by rw [ho.block g (Array.getElem?_eq_some_iff.1 hgg).1 (hn g rfl)]; exact hgg, rest⟩

def IV' (n : Int) : Value := .int .i64 n
def rowVal (ns : List Int) : Array Value := #[.int .i64 (nth ns 0), .int .i64 (nth ns 1), .int .i64 (nth ns 2), .int .i64 (nth ns 3), .int .i64 (nth ns 4), .int .i64 (nth ns 5), .int .i64 (nth ns 6), .int .i64 (nth ns 7), .int .i64 (nth ns 8), .int .i64 (nth ns 9), .int .i64 (nth ns 10), .int .i64 (nth ns 11), .int .i64 (nth ns 12), .int .i64 (nth ns 13)]
def letVal (ns : List Int) : Array Value := #[.int .i64 (nth ns 0), .int .i64 (nth ns 1), .int .u8 (nth ns 2), .int .i64 (nth ns 3), .int .i64 (nth ns 4), .int .i64 (nth ns 5), .int .i64 (nth ns 6), .bool (nth ns 7 == 1)]
def rowCells (l : List (List Int)) : List Value := l.flatMap fun r => (rowVal r).toList
def letCells (l : List (List Int)) : List Value := l.flatMap fun r => (letVal r).toList
theorem rowCells_snoc (l : List (List Int)) (r : List Int) : rowCells (l ++ [r]) = rowCells l ++ (rowVal r).toList := by simp [rowCells]
theorem letCells_snoc (l : List (List Int)) (r : List Int) : letCells (l ++ [r]) = letCells l ++ (letVal r).toList := by simp [letCells]
theorem infoRow : (Tryz.prog.info? 48).map (fun i => (i.zero, i.size, i.bytes)) = some (some (.agg #[.int .i64 0, .int .i64 0, .int .i64 0, .int .i64 0, .int .i64 0, .int .i64 0, .int .i64 0, .int .i64 0, .int .i64 0, .int .i64 0, .int .i64 0, .int .i64 0, .int .i64 0, .int .i64 0]), 14, 112) := by kernel_rfl
theorem infoLetter : (Tryz.prog.info? 51).map (fun i => (i.zero, i.size, i.bytes)) = some (some (.agg #[.int .i64 0, .int .i64 0, .int .u8 0, .int .i64 0, .int .i64 0, .int .i64 0, .int .i64 0, .bool false]), 8, 64) := by kernel_rfl
theorem infoEntry : (Tryz.prog.info? 62).map (fun i => (i.zero, i.size, i.bytes)) = some (some (.agg #[.int .i64 0, .string ⟨#[]⟩, .slice none 0 0]), 3, 48) := by kernel_rfl

/-- The entries of a log as their cells. -/
def EnCells (w : World) (base : Nat) : List Value → List En → Prop
  | [], [] => True
  | d :: s :: a :: r, x :: t => d = .int .i64 x.day ∧ (∃ b : ByteArray, s = .string b ∧ b.data.toList = x.word) ∧ w.ownsRow base 3 1 a x.args.length (x.args.map fun n => Value.int .i64 n) ∧ EnCells w base r t
  | _, _ => False
theorem EnCells.only {w w' : World} {base : Nat} {O : Nat → Prop} (ho : Only O w w') (hO : ∀ k, O k → ∀ cur, w.heap[k]? ≠ some (.cells cur 3 (0, 0))) : ∀ {cs : List Value} {l : List En}, EnCells w base cs l → EnCells w' base cs l
  | [], [], _ => trivial
  | d :: s :: a :: r, x :: t, h => ⟨h.1, h.2.1, owns_only h.2.2.1 ho (fun k hk hok => by obtain ⟨_, _, cur, hc⟩ := owns_block h.2.2.1 hk; exact hO k hok cur hc), h.2.2.2.only ho hO⟩
  | [], _ :: _, h => h.elim
  | [_], _, h => by cases ‹List En› <;> exact h.elim
  | [_, _], _, h => by cases ‹List En› <;> exact h.elim
  | _ :: _ :: _ :: _, [], h => h.elim
theorem EnCells.snoc {w : World} {base : Nat} {d s a : Value} {x : En} (h1 : d = .int .i64 x.day) (h2 : ∃ b : ByteArray, s = .string b ∧ b.data.toList = x.word) (h3 : w.ownsRow base 3 1 a x.args.length (x.args.map fun n => Value.int .i64 n)) :
    ∀ {cs : List Value} {l : List En}, EnCells w base cs l → EnCells w base (cs ++ [d, s, a]) (l ++ [x])
  | [], [], _ => ⟨h1, h2, h3, trivial⟩
  | _ :: _ :: _ :: _, _ :: _, h => ⟨h.1, h.2.1, h.2.2.1, h.2.2.2.snoc h1 h2 h3⟩
  | [], _ :: _, h => h.elim
  | [_], _, h => by cases ‹List En› <;> exact h.elim
  | [_, _], _, h => by cases ‹List En› <;> exact h.elim
  | _ :: _ :: _ :: _, [], h => h.elim
end Go.Proofs.YtjamdppihpeijaaGreatDoor
