/- A slice's elements as they lie in memory ('Rd'), one cell each: that they stay, and how they are read at an index; no condition. -/
import Derived.Test.YtjamdppihpeijaaGreatDoorEnv
import Derived.StillTailTactics
import Derived.Deep.AppendLies
namespace Go.Proofs.YtjamdppihpeijaaGreatDoor
open Go.RowKit Go.Shelf

/-- From the address a on lie the elements xs, a cell each. -/
def Rd {α : Type} (enc : α → Value) (w : World) (a : Option Addr) (xs : List α) : Prop :=
  xs = [] ∨ ∃ b o, a = some ⟨b, o, none⟩ ∧ b < w.heap.size ∧ ∀ j x, xs[j]? = some x → w.cell? ⟨b, o + j, none⟩ = some (enc x)

theorem Rd.below {α : Type} {enc : α → Value} {w w' : World} {a : Option Addr} {xs : List α} {B : Nat} (h : Rd enc w a xs) (hb : Below B w w') (hB : ∀ b o s, a = some ⟨b, o, s⟩ → b < B) : Rd enc w' a xs := by
  rcases h with h | ⟨b, o, rfl, hl, hc⟩
  · exact .inl h
  · have hbB := hB b o none rfl
    exact .inr ⟨b, o, rfl, Nat.lt_of_lt_of_le hl hb.size, fun j x hj => (hb.cell (p := ⟨b, o + j, none⟩) hbB).trans (hc j x hj)⟩
theorem Rd.step {α : Type} {enc : α → Value} {w w' : World} {a : Option Addr} {xs : List α} (h : Rd enc w a xs) (hb : Below w.heap.size w w') : Rd enc w' a xs := by
  rcases h with h | ⟨b, o, rfl, hl, hc⟩
  · exact .inl h
  · exact .inr ⟨b, o, rfl, Nat.lt_of_lt_of_le hl hb.size, fun j x hj => (hb.cell (p := ⟨b, o + j, none⟩) hl).trans (hc j x hj)⟩
theorem Rd.ne {α : Type} {enc : α → Value} {w : World} {a : Option Addr} {xs : List α} (h : Rd enc w a xs) (hn : xs ≠ []) : ∃ b o, a = some ⟨b, o, none⟩ ∧ b < w.heap.size ∧ ∀ j x, xs[j]? = some x → w.cell? ⟨b, o + j, none⟩ = some (enc x) :=
  h.resolve_left hn
theorem Rd.nil {α : Type} {enc : α → Value} {w : World} {a : Option Addr} : Rd enc w a ([] : List α) := .inl rfl
/-- What the call owns is read so. -/
theorem Rd.of_owns {α : Type} {enc : α → Value} {w : World} {base : Nat} {e : TypeId} {v : Value} {n : Nat} {xs : List α} (h : w.ownsRow base e 1 v n (xs.map enc)) :
    ∃ a c, v = .slice a xs.length c ∧ n = xs.length ∧ xs.length ≤ c ∧ Rd enc w a xs ∧ (∀ b o s, a = some ⟨b, o, s⟩ → base ≤ b) := by
  have hl : xs.length = n := by have := h.1; simpa using this
  subst hl
  rcases h.2 with ⟨rfl, h0⟩ | ⟨g, cap, cur, rfl, hb, hg, hn, hm, hs, ht⟩
  · exact ⟨none, 0, by rw [h0], rfl, by omega, .inl (List.eq_nil_of_length_eq_zero h0), fun _ _ _ h => by cases h⟩
  · refine ⟨_, _, rfl, rfl, hn, .inr ⟨g, 0, rfl, (Array.getElem?_eq_some_iff.1 hg).1, fun j x hj => ?_⟩, fun b o s h => by cases h; exact hb⟩
    have := World.ownsRow.cells h (g := g) rfl j (enc x) (by rw [List.getElem?_map, hj]; rfl)
    rw [Nat.zero_add]
    have hadd : (⟨g, 0, none⟩ : Addr).add j = ⟨g, j, none⟩ := by unfold Addr.add; split <;> simp_all
    rwa [hadd] at this
/-- One element in a new block. -/
theorem rd_one {α : Type} (enc : α → Value) (w : World) (x : α) (e : TypeId) : Rd enc (w.alloc (.cells #[enc x] e)) (some ⟨w.heap.size, 0, none⟩) [x] :=
  .inr ⟨_, _, rfl, by simp, fun j y hj => by
    obtain rfl : j = 0 := by have := (List.getElem?_eq_some_iff.1 hj).1; simpa using this
    obtain rfl : x = y := by simpa using hj
    simp [go_sem]⟩
theorem below_alloc (w : World) (o : Obj) : Below w.heap.size w (w.alloc o) := (Below.refl _ _).alloc (Nat.le_refl _) _
/-- A chain of calls and blocks: what is below the first world's heap stays. -/
theorem below_then {B : Nat} {w w1 w2 : World} (h : Below B w w1) (h2 : Below w1.heap.size w1 w2) (hB : B ≤ w.heap.size) : Below B w w2 := h.trans (h2.mono (Nat.le_trans hB h.size))
theorem grown_of_below {w w' : World} (h : Below w.heap.size w w') (row : Option Nat) : w.grownBy w' row := ⟨h.os, h.tape, h.output, h.size, fun k hk _ => h.block k hk⟩
theorem owns_step {w w' : World} {base : Nat} {e : TypeId} {size : Nat} {v : Value} {n : Nat} {xs : List Value} (h : w.ownsRow base e size v n xs) (hb : Below w.heap.size w w') : w'.ownsRow base e size v n xs :=
  h.kept (grown_of_below hb none) (by cases v.ownBlock <;> simp)
/-- A region that reads in an open order and then does what is left in one order; the world behind the draw has a name. -/
theorem still_tail {P : Program} {id : Nat} {Q : Exit → Act → World → Prop} {a : Act} {w : World} {l : List Oper} (n : Nat) (hm : P.follows .mixedOrders = true) (hB : Region.lexTailB .any l.toArray n = true)
    (h : ∀ W : World, W = w.drew → wpStill P l.toArray W (fun a' => wpList P l.toArray Q (l.drop n) a' W) (l.take n) a) : (Code.region id l.toArray true).wp P Q a w :=
  wp_region_still_tail n hm hB (h _ rfl)
end Go.Proofs.YtjamdppihpeijaaGreatDoor
