/- The program's 'knots': a closure that adds a text to a sum, and gives the sum. -/
import Derived.Test.YtjamdppihpeijaaGreatDoorPLet
import Derived.Test.YtjamdppihpeijaaGreatDoorRefVal
import Derived.Lib.ConvBytes
namespace Go.Proofs.YtjamdppihpeijaaGreatDoor
open Go.RowKit

theorem knots_any (w : World) : Calls Tryz.prog 21 #[] w fun e w' => e = .returned (.func (.func 36) #[] #[.pointer (some ⟨w.heap.size, 0, none⟩)]) ∧ w' = w.alloc (.cells #[.int .i64 23] 3) := by
  go_enter Tryz.func21, Tryz.ntmps21
  go_wp2
  go_ret
  exact ⟨rfl, rfl⟩

theorem undBytes : Tryz.prog.underlying 94 = some (.slice 5) := by kernel_rfl
theorem undU8 : Tryz.prog.underlying 5 = some (.int .u8) := by kernel_rfl
theorem undStr : Tryz.prog.underlying 9 = some .string := by kernel_rfl
theorem Only.cell {O : Nat → Prop} {w w' : World} (h : Only O w w') {p : Addr} {v : Value} (hn : ¬ O p.block) (hv : w.cell? p = some v) : w'.cell? p = some v := by
  have hb := World.block_lt_of_cell? w p hv
  have hB : w'.heap[p.block]? = w.heap[p.block]? := h.block _ hb hn
  rw [← hv]; unfold World.cell?; simp only [hB]
theorem set_one {w : World} {K : Nat} {u v : Value} {T : TypeId} (h : w.heap[K]? = some (.cells #[u] T (0, 0))) : (w.setCell ⟨K, 0, none⟩ v).heap[K]? = some (.cells #[v] T (0, 0)) := by
  have := box_set (j := 0) h v; exact this
set_option maxRecDepth 100000 in
theorem knots1_any (s : ByteArray) (K : Nat) (n : Int) (w : World) (hK : w.heap[K]? = some (.cells #[.int .i64 n] 3 (0, 0))) (h0 : 0 ≤ n) (h1 : n < 8191) (hs : s.size ≤ 1000000000) :
    Calls Tryz.prog 36 #[.string s, .pointer (some ⟨K, 0, none⟩)] w fun e w' => e = .returned (.int .i64 (sumL n s.data.toList)) ∧ Only (fun k => k = K) w w' ∧ w'.heap[K]? = some (.cells #[.int .i64 (sumL n s.data.toList)] 3 (0, 0)) := by
  have hcv := Lib.run_convert_string_bytes (P := Tryz.prog) w 9 94 5 s undStr undBytes undU8
  have hbw := Lib.bytesWorld_below w 5 s
  have hbc : ∀ j, j < s.size → (Lib.bytesWorld w 5 s).cell? ⟨w.heap.size, j, none⟩ = some (.int .u8 (s.data.toList.getD j 0).toNat) := fun j hj => Lib.bytesWorld_cell w 5 s j hj
  have hKl := (Array.getElem?_eq_some_iff.1 hK).1
  generalize Lib.bytesWorld w 5 s = W1 at hcv hbw hbc
  have HBW := Lib.hid hbw
  have HBC := Lib.hid hbc
  have HK1 : Hid (W1.heap[K]? = some (.cells #[.int .i64 n] 3 (0, 0))) := Lib.hid ((hbw.block K hKl).trans hK)
  clear hbw hbc hK
  go_enter Tryz.func36, Tryz.ntmps36
  go_wp2
  clear hcv
  go_loopw [9] (fun i wr => ∃ k : Nat, k ≤ s.size ∧ i = .int .i64 k ∧ Only (fun k => k = K) W1 wr ∧ wr.heap[K]? = some (.cells #[.int .i64 (sumL n (s.data.toList.take k))] 3 (0, 0))) (fun i _ => s.size - (intOf i).toNat)
  case atStart => exact ⟨0, Nat.zero_le _, rfl, Only.refl _ _, HK1.out⟩
  case round =>
    obtain ⟨k, hk, rfl, ho, hb⟩ := hrel
    have hd := sumL_bd n (s.data.toList.take k) h0 h1
    by_cases hlt : k < s.size
    · have HTS := Lib.hid (take_snoc s k hlt)
      have hc := s[k].toNat_lt
      have g1 : wr.cell? ⟨w.heap.size, k, none⟩ = some (.int .u8 s[k].toNat) := by
        have := ho.cell (p := ⟨w.heap.size, k, none⟩) (by show ¬ w.heap.size = K; omega) (HBC.out k hlt)
        rw [this, List.getD_eq_getElem?_getD, List.getElem?_eq_getElem (by simpa using hlt)]; rfl
      have g2 : wr.cell? ⟨K, 0, none⟩ = some (.int .i64 (sumL n (s.data.toList.take k))) := cell_of hb 0
      have g3 : wr.frozen? ⟨K, 0, none⟩ = false := free_of hb 0
      have HO := Lib.hid ho
      have HB := Lib.hid hb
      obtain ⟨y, hy⟩ : ∃ y, y = sumL n (s.data.toList.take k) := ⟨_, rfl⟩
      rw [← hy] at g2 hd
      have HY := Lib.hid hy
      obtain ⟨d1, d2⟩ := hd
      have w1 : IntKind.i64.wrap (37 * y) = 37 * y := IntWalk.i64_in _ (by omega)
      have w2 : IntKind.i64.wrap (37 * y + (s[k].toNat : Int)) = 37 * y + (s[k].toNat : Int) := IntWalk.i64_in _ (by omega)
      clear ho hb hy
      go_wp2
      refine ⟨⟨k + 1, by omega, by go_num, HO.out.setCell (a := ⟨K, 0, none⟩) (.inl rfl) _, ?_⟩, ?_⟩
      · rw [set_one HB.out, HTS.out, sumL_snoc, ← HY.out, stepF, Int.mul_comm y 37]
      · simp [intOf]; omega
    · obtain rfl : k = s.size := by omega
      rw [List.take_of_length_le (by simp)] at hb
      have g2 : wr.cell? ⟨K, 0, none⟩ = some (.int .i64 (sumL n s.data.toList)) := cell_of hb 0
      have HO := Lib.hid ho
      have HB := Lib.hid hb
      clear ho hb hd
      go_wp2
      go_ret
      exact ⟨rfl, (Only.of_below HBW.out).trans HO.out (fun _ _ h => h), HB.out⟩
end Go.Proofs.YtjamdppihpeijaaGreatDoor
