/- What the walks ask of the library's variables ('Env'), that it stays, and the library's contracts in the one form that they use; the condition is 'Env' alone. -/
import Derived.Test.YtjamdppihpeijaaGreatDoorBase
import Derived.Test.YtjamdppihpeijaaGreatDoorNum
import Derived.Test.YtjamdppihpeijaaGreatDoorShelf
import Derived.Lib.SmallJoins
import Derived.WalkSmall
namespace Go.Proofs.YtjamdppihpeijaaGreatDoor
open Go.RowKit Go.Shelf

structure Env (w : World) : Prop where
  maxLen : ∃ m, w.cell? ⟨0, 0, none⟩ = some (.int .i64 m)
  syn : ∃ tp p, w.cell? ⟨1, 0, none⟩ = some (.iface tp p)
  ran : ∃ tp p, w.cell? ⟨2, 0, none⟩ = some (.iface tp p)
  pow : Lib.TabIs Tryz.prog w "internal/strconv.uint64pow10" .u64 Lib.pow10Tab
  size : 10 ≤ w.heap.size

theorem gPow : Tryz.prog.globalNamed "internal/strconv.uint64pow10" = some 3 := by kernel_rfl

theorem Env.below {B : Nat} {w w' : World} (h : Env w) (hb : Below B w w') (hB : 10 ≤ B) : Env w' where
  maxLen := by obtain ⟨m, h⟩ := h.maxLen; exact ⟨m, (hb.cell (p := ⟨0, 0, none⟩) (by show (_ : Nat) < B; dsimp only; omega)).trans h⟩
  syn := by obtain ⟨m, k, h⟩ := h.syn; exact ⟨m, k, (hb.cell (p := ⟨1, 0, none⟩) (by show (_ : Nat) < B; dsimp only; omega)).trans h⟩
  ran := by obtain ⟨m, k, h⟩ := h.ran; exact ⟨m, k, (hb.cell (p := ⟨2, 0, none⟩) (by show (_ : Nat) < B; dsimp only; omega)).trans h⟩
  pow := var?_below hb gPow (by omega) h.pow
  size := Nat.le_trans h.size hb.size
theorem Env.step {w w' : World} (h : Env w) (hb : Below w.heap.size w w') : Env w' := h.below hb h.size

theorem below_grow (B : Nat) (w : World) (n : Nat) (os : Array Obj) (h : B ≤ w.heap.size) : Below B w (Go.Sort.grow (w.drewN n) os) :=
  ⟨rfl, rfl, rfl, by simp [Go.Sort.grow], fun k hk => by simp only [Go.Sort.grow]; rw [Array.getElem?_append_left (by show k < w.heap.size; omega)]; rfl⟩
theorem below_drewN (B : Nat) (w : World) (n : Nat) : Below B w (w.drewN n) := ⟨rfl, rfl, rfl, Nat.le_refl _, fun _ _ => rfl⟩

theorem itoa_any (n : Int) (w : World) (he : Env w) (h0 : -9223372036854775808 ≤ n) (h1 : n ≤ 9223372036854775807) :
    Calls Tryz.prog 27 #[.int .i64 n] w fun e w' => e = .returned (.string ⟨(Lib.itoa n).toArray⟩) ∧ Below w.heap.size w w' := by
  refine (Tryz.strconv_Itoa n h0 h1 w he.pow).mono ?_
  rintro e w' ⟨rfl, k, os, rfl⟩
  exact ⟨rfl, below_grow _ w k os (Nat.le_refl _)⟩

theorem atoi_ok (s : ByteArray) (w : World) (n : Int) (hs : s.size ≤ 281474976710656) (h : Lib.atoiAll s.data.toList = .ok n) :
    Calls Tryz.prog 25 #[.string s] w fun e w' => e = .returned (.tuple #[.int .i64 n, .nilIface]) ∧ Below w.heap.size w w' := by
  refine (Tryz.strconv_Atoi_ok s (by omega) n h w).mono ?_
  rintro e w' ⟨rfl, rfl | ⟨t, rfl⟩⟩
  · exact ⟨rfl, Below.refl _ _⟩
  · exact ⟨rfl, Go.Joins.below_bytesWorld _ _ _ _ (Nat.le_refl _)⟩
theorem atoi_bad (s : ByteArray) (w : World) (he : Env w) (hs : s.size ≤ 281474976710656) (h : ∀ n, Lib.atoiAll s.data.toList ≠ .ok n) :
    Calls Tryz.prog 25 #[.string s] w fun e w' => ∃ n N, e = .returned (.tuple #[.int .i64 n, .iface 109 (.pointer (some ⟨N, 0, none⟩))]) ∧ Below w.heap.size w w' := by
  cases hh : Lib.atoiAll s.data.toList
  · exact absurd hh (h _)
  · obtain ⟨tp, p, hc⟩ := he.syn
    refine (Any.strconv_Atoi_syntax Tryz.laysC172 s hs hh _ w hc (.inr ⟨tp, p, rfl⟩)).mono ?_
    rintro e w' ⟨N, rfl, _, _, hb⟩
    exact ⟨_, N, rfl, hb⟩
  · obtain ⟨tp, p, hc⟩ := he.ran
    refine (Tryz.strconv_Atoi_range s hs hh _ w hc (.inr ⟨tp, p, rfl⟩)).mono ?_
    rintro e w' ⟨N, rfl, _, _, hb⟩
    exact ⟨_, N, rfl, hb⟩
end Go.Proofs.YtjamdppihpeijaaGreatDoor
