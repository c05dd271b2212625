/- The reference's 'numbers' gives the numbers of words, at every text of a size that is not great. -/
import Derived.Test.YtjamdppihpeijaaGreatDoorMarks
import Derived.Test.YtjamdppihpeijaaGreatDoorRefVal
import Derived.Test.YtjamdppihpeijaaGreatDoorPLeaf
import Derived.Deep.QuietTactic
import Derived.BigQuiet
import Derived.Lib.Strings
namespace Go.Proofs.YtjamdppihpeijaaGreatDoor
open Go.RowKit

theorem bytes_extract (s : ByteArray) (m : Nat × Nat) : (s.extract m.1 m.2).data.toList = sub s.data.toList m := by
  unfold sub; simp [ByteArray.data_extract, List.extract_eq_take_drop]

set_option maxHeartbeats 400000 in
theorem rnumbers_any (s : ByteArray) (a : Option Addr) (c : Nat) (ms : List (Nat × Nat)) (k0 : Nat) (w : World) (hr : RdM w a ms) (hk0 : k0 ≤ ms.length) (hm : ∀ m ∈ ms, m.1 ≤ m.2 ∧ m.2 ≤ s.size) (hs : s.size ≤ 1000000000) (hn : ms.length ≤ 1000000001) :
    Calls Tryz.prog 33 #[.string s, .slice a ms.length c, .int .i64 k0] w (NumsPost w ((ms.map (sub s.data.toList)).drop k0)) := by
  have HR := Lib.hid hr
  have HMS := Lib.hid hm
  clear hr hm
  obtain ⟨i0, hi, hz0, hz1, hz2⟩ := info_parts infoInt
  go_enter Tryz.func33, Tryz.ntmps33
  go_wp2
  go_loopw [8, 9] (fun v i wr => ∃ (k : Nat) (ns : List Int), k0 ≤ k ∧ k ≤ ms.length ∧ i = .int .i64 k ∧ nums (((ms.map (sub s.data.toList)).drop k0).take (k - k0)) = some ns ∧ wr.ownsRow w.heap.size 3 1 v ns.length (ns.map fun n => Value.int .i64 n) ∧ ns.length = k - k0 ∧ Below w.heap.size w wr) (fun _ i _ => ms.length - (intOf i).toNat)
  case atStart => exact ⟨k0, [], Nat.le_refl _, hk0, rfl, by simp [nums], World.ownsRow_nil _ _ _ _, by simp, Below.refl _ _⟩
  case round =>
    obtain ⟨k, ns, hk1, hk, rfl, hnum, hown, hlen, hb⟩ := hrel
    have HNUM := Lib.hid hnum
    have HLEN := Lib.hid hlen
    have HOWN := Lib.hid hown
    clear hnum hlen hown
    by_cases hlt : k < ms.length
    · obtain ⟨b, o, rfl, hbl, hc⟩ := (HR.out).resolve_left (by intro e; subst e; simp at hlt)
      obtain ⟨m, hx⟩ : ∃ m, ms[k]? = some m := ⟨ms[k], by simp [hlt]⟩
      have hc1 : wr.cell? ⟨b, o + k * 2, none⟩ = some (.int .i64 m.1) := (hb.cell (p := ⟨b, o + k * 2, none⟩) hbl).trans (hc k m hx).1
      have hc2 : wr.cell? ⟨b, o + k * 2 + 1, none⟩ = some (.int .i64 m.2) := (hb.cell (p := ⟨b, o + k * 2 + 1, none⟩) hbl).trans (hc k m hx).2
      obtain ⟨hm1, hm2⟩ := HMS.out m (List.mem_of_getElem? hx)
      have HXB : Hid (((ms.map (sub s.data.toList)).drop k0)[k - k0]? = some (sub s.data.toList m)) := Lib.hid (by
        rw [List.getElem?_drop, show k0 + (k - k0) = k by omega, List.getElem?_map, hx]; rfl)
      clear hc hx
      have hsz : (s.extract m.1 m.2).size ≤ 1000000000 := by rw [ByteArray.size_extract]; omega
      have hval : ∀ W : World, Calls Tryz.prog 31 #[.string (s.extract m.1 m.2)] W fun e W' => e = .returned (.tuple #[.int .i64 (valN (sub s.data.toList m)), .bool (num (sub s.data.toList m)).isSome]) ∧ W' = W := fun W =>
        (value_any (s.extract m.1 m.2) W hsz).mono fun e W' h => by rw [bytes_extract] at h; exact ⟨h.1, h.2.symm⟩
      have HV := Lib.hid hval
      clear hval hsz
      have hkk : (k : Int) < ms.length := by omega
      cases hx : num (sub s.data.toList m) with
      | none =>
        rw [hx] at HV
        have HX := Lib.hid hx
        clear hx
        go_wp2_with fail
        go_quiet ((go_at_call 31; exact Calls.quiet_of_same (HV.out _)))
        go_wp2
        go_ret2
        exact numsPost_none (hb.trans (below_drewN _ _ _)) (nums_take_none HXB.out HX.out) rfl
      | some n =>
        rw [hx, valN_num hx] at HV
        have HX := Lib.hid hx
        clear hx
        have HNS := Lib.hid (show ns.length ≤ 1000000001 by rw [HLEN.out]; omega)
        go_wp2_with fail
        go_quiet ((go_at_call 31; exact Calls.quiet_of_same (HV.out _)))
        have hownr := owns_step HOWN.out (below_drewN wr.heap.size wr nq)
        have hz : w.heap.size ≤ wr.heap.size := hb.size
        have HBQ := Lib.hid (hb.trans (below_drewN _ wr nq))
        have hns := HNS.out
        go_wp2_with (at_builtin; refine wpList_append_own _ rfl _ _ 42 rfl w.heap.size 3 i0 (.int .i64 0) 1 8 Tryz.underlying42 hi hz0 hz1 hz2 rfl (by decide) _ _ _ rfl (hownr.alloc _) ⟨wr.heap.size, 0, none⟩ 1 1 [.int .i64 n] rfl rfl ?c1 ?c2 ?c3 ?c4 ?c5 ?_)
        case c1 => exact cell_one_new (wr.drewN nq) _ _
        case c2 => simp [Value.oneCell']
        case c3 => unfold maxLen; omega
        case c4 => omega
        case c5 => simp; omega
        intro v' w4 hown4 hgrow _
        have HB4 := Lib.hid ((HBQ.out.alloc hz _).grown hgrow (by simp; omega) (fun q hq => (hownr.lt q hq).1))
        have HOWN4 := Lib.hid hown4
        clear hown4 hgrow hownr hz hb
        go_wp2
        go_roundw
        case rel => exact ⟨k + 1, ns ++ [n], by omega, by omega, by go_num, by rw [show k + 1 - k0 = (k - k0) + 1 by omega]; exact nums_take_succ HNUM.out HXB.out HX.out, by simpa using HOWN4.out, by rw [List.length_append, HLEN.out]; simp; omega, HB4.out⟩
        case measure => simp [intOf]; omega
    · obtain rfl : k = ms.length := by omega
      go_wp2
      go_ret2
      have hall := HNUM.out
      rw [List.take_of_length_le (by simp)] at hall
      exact numsPost_some hb hall rfl HOWN.out
end Go.Proofs.YtjamdppihpeijaaGreatDoor
