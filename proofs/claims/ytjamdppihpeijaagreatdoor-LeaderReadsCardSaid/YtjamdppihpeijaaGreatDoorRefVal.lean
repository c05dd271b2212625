/- The reference's 'value' and 'Sum' return what plain Lean functions give, at every string of a size that is not great. -/
import Derived.Test.YtjamdppihpeijaaGreatDoorRefLeaf
import Derived.Test.YtjamdppihpeijaaGreatDoorNum
namespace Go.Proofs.YtjamdppihpeijaaGreatDoor
open Go.RowKit

def isDig (c : UInt8) : Prop := 48 ≤ c.toNat ∧ c.toNat ≤ 57
def dval (l : List UInt8) : Nat := l.foldl (fun a c => 10 * a + (c.toNat - 48)) 0
theorem dval_snoc (l : List UInt8) (c : UInt8) : dval (l ++ [c]) = 10 * dval l + (c.toNat - 48) := by simp [dval]
theorem dval_acc (l : List UInt8) : ∀ a : Nat, (∀ c ∈ l, isDig c) → l.foldl (fun a c => 10 * a + (c.toNat - 48)) a < (a + 1) * 10 ^ l.length := by
  induction l with
  | nil => intro a _; simp
  | cons c r ih =>
    intro a h
    have h1 := ih (10 * a + (c.toNat - 48)) (fun c hc => h c (by simp [hc]))
    have h2 := h c (by simp)
    unfold isDig at h2
    rw [List.foldl_cons, List.length_cons, Nat.pow_succ]
    refine Nat.lt_of_lt_of_le h1 ?_
    rw [← Nat.mul_assoc, Nat.mul_right_comm]
    exact Nat.mul_le_mul_right _ (by omega)
theorem dval_lt (l : List UInt8) (h : ∀ c ∈ l, isDig c) : dval l < 10 ^ l.length := by
  have := dval_acc l 0 h
  unfold dval; omega
theorem dval_dec (n : Nat) : dval (Lib.decDigits n) = n := by
  induction n using Nat.strongRecOn with
  | _ n ih =>
    rw [Lib.decDigits]
    by_cases h : n < 10
    · rw [dif_pos h]; simp [dval]; omega
    · rw [dif_neg h, dval_snoc, ih (n / 10) (by omega), digit_toNat (n % 10) (by omega)]; omega
theorem dec_digits (n : Nat) : ∀ c ∈ Lib.decDigits n, isDig c := by
  induction n using Nat.strongRecOn with
  | _ n ih =>
    intro c hc
    rw [Lib.decDigits] at hc
    by_cases h : n < 10
    · rw [dif_pos h] at hc
      rw [List.mem_singleton.1 hc]
      unfold isDig; rw [digit_toNat n h]; omega
    · rw [dif_neg h] at hc
      rcases List.mem_append.1 hc with hc | hc
      · exact ih (n / 10) (by omega) c hc
      · rw [List.mem_singleton.1 hc]
        unfold isDig; rw [digit_toNat (n % 10) (by omega)]; omega
def skip (l : List UInt8) : List UInt8 := if l.head? = some 45 then l.tail else l
theorem skip_snoc (l : List UInt8) (c : UInt8) (h : l ≠ []) : skip (l ++ [c]) = skip l ++ [c] := by
  cases l with
  | nil => exact absurd rfl h
  | cons x r => unfold skip; simp only [List.cons_append, List.head?_cons]; by_cases hx : some x = some 45 <;> simp [hx]
theorem skip_one (c : UInt8) (h : c ≠ 45) : skip [c] = [c] := by unfold skip; simp [h]
theorem skip_len (l : List UInt8) : (skip l).length ≤ l.length := by unfold skip; split <;> simp
def signedVal (l : List UInt8) : Int := if l.head? = some 45 then -(dval (skip l) : Int) else dval (skip l)
theorem itoa_digits (n : Int) : ∀ c ∈ skip (Lib.itoa n), isDig c := by
  by_cases h : n < 0
  · obtain ⟨m, rfl⟩ : ∃ m : Nat, n = -(m : Int) := ⟨(-n).toNat, by omega⟩
    rw [Lib.itoa_neg m (by omega)]
    unfold skip; simpa using dec_digits m
  · obtain ⟨m, rfl⟩ := Int.eq_ofNat_of_zero_le (show 0 ≤ n by omega)
    rw [Lib.itoa_nonneg]
    unfold skip; split
    · intro c hc; exact dec_digits m c (List.mem_of_mem_tail hc)
    · exact dec_digits m
theorem signed_itoa (n : Int) : signedVal (Lib.itoa n) = n := by
  by_cases h : n < 0
  · obtain ⟨m, rfl⟩ : ∃ m : Nat, n = -(m : Int) := ⟨(-n).toNat, by omega⟩
    rw [Lib.itoa_neg m (by omega)]
    unfold signedVal skip; simp [dval_dec]
  · obtain ⟨m, rfl⟩ := Int.eq_ofNat_of_zero_le (show 0 ≤ n by omega)
    rw [Lib.itoa_nonneg]
    obtain ⟨c, r, e, h1, h2⟩ := dec_head m
    have hne : (Lib.decDigits m).head? ≠ some 45 := by rw [e]; simp; intro e; subst e; revert h1; decide
    unfold signedVal skip; rw [if_neg hne, if_neg hne, dval_dec]

/-! Sum -/
theorem take_snoc (s : ByteArray) (k : Nat) (h : k < s.size) : s.data.toList.take (k + 1) = s.data.toList.take k ++ [s[k]] := by
  rw [List.take_succ_eq_append_getElem (by simpa using h)]; rfl

theorem sum_any (s : ByteArray) (w : World) (hs : s.size ≤ 1000000000) :
    Calls Tryz.prog 32 #[.string s] w fun e w' => e = .returned (.int .i64 (sumL 23 s.data.toList)) ∧ w = w' := by
  go_enter Tryz.func32, Tryz.ntmps32
  go_wp2
  go_loop [3, 4] (fun n i => ∃ k : Nat, k ≤ s.size ∧ i = .int .i64 k ∧ n = .int .i64 (sumL 23 (s.data.toList.take k))) (fun _ i => s.size - (intOf i).toNat)
  case atStart => exact ⟨0, Nat.zero_le _, rfl, rfl⟩
  case round =>
    obtain ⟨k, hk, rfl, rfl⟩ := hrel
    have hd := sumL_bd 23 (s.data.toList.take k) (by omega) (by omega)
    by_cases hlt : k < s.size
    · have HTS := Lib.hid (take_snoc s k hlt)
      have hc := s[k].toNat_lt
      go_wp2_with fail
      refine (step_any _ _ _ hd.1 hd.2 (by omega) (by omega)).mono ?_
      rintro e w' ⟨rfl, rfl⟩
      go_wp2
      go_round
      case rel => exact ⟨k + 1, by omega, by go_num, by rw [HTS.out, sumL_snoc]⟩
      case measure => simp [intOf]; omega
    · go_wp2
      go_ret
      exact ⟨by rw [List.take_of_length_le (by simp; omega)]; rfl, rfl⟩

theorem num_signed {x : List UInt8} {m : Int} (h : num x = some m) : m = signedVal x ∧ ∀ c ∈ skip x, isDig c := by
  obtain ⟨rfl, _, _⟩ := num_some.1 h
  exact ⟨(signed_itoa m).symm, itoa_digits m⟩

def e14 : Int := 100000000000000
instance (c : UInt8) : Decidable (isDig c) := inferInstanceAs (Decidable (_ ∧ _))
/-- What 'value' gives as a number, also where there is none. -/
def valN (x : List UInt8) : Int := if x.length = 0 ∨ 14 < x.length then 0 else if ∀ c ∈ skip x, isDig c then signedVal x else 0
def ValPost (x : List UInt8) (w : World) (e : Ending) (w' : World) : Prop := e = .returned (.tuple #[.int .i64 (valN x), .bool (num x).isSome]) ∧ w = w'
theorem valPost_none {x : List UInt8} {w : World} {e : Ending} {n : Int} (hv : valN x = n) (h : num x = none) (he : e = .returned (.tuple #[.int .i64 n, .bool false])) : ValPost x w e w := by
  subst hv; refine ⟨?_, rfl⟩; rw [h]; exact he
theorem valPost_some {x : List UInt8} {w : World} {e : Ending} {m : Int} (hv : valN x = m) (h : num x = some m) (he : e = .returned (.tuple #[.int .i64 m, .bool true])) : ValPost x w e w := by
  subst hv; refine ⟨?_, rfl⟩; rw [h]; exact he
theorem dec_len_le : ∀ (k n : Nat), n < 10 ^ (k + 1) → (Lib.decDigits n).length ≤ k + 1
  | 0, n, h => by rw [dec_small n (by simpa using h)]; simp
  | k + 1, n, h => by
    by_cases h10 : n < 10
    · rw [dec_small n h10]; simp
    · have := dec_len_le k (n / 10) (by rw [Nat.pow_succ] at h; omega)
      rw [Lib.decDigits, dif_neg h10]; simp; omega
theorem num_long {x : List UInt8} (h : 14 < x.length) : num x = none := by
  cases hh : num x with
  | none => rfl
  | some m =>
    exfalso
    obtain ⟨e, h0, h1⟩ := num_some.1 hh
    unfold maxSaid at h0 h1
    have hb : ∀ k : Nat, k ≤ 1000000000000 → (Lib.decDigits k).length ≤ 13 := by
      intro k hk
      exact dec_len_le 12 k (by omega)
    by_cases hneg : m < 0
    · obtain ⟨k, rfl⟩ : ∃ k : Nat, m = -(k : Int) := ⟨(-m).toNat, by omega⟩
      rw [Lib.itoa_neg k (by omega)] at e
      rw [e] at h; simp at h
      have := hb k (by omega); omega
    · obtain ⟨k, rfl⟩ := Int.eq_ofNat_of_zero_le (show 0 ≤ m by omega)
      rw [Lib.itoa_nonneg] at e
      rw [e] at h
      have := hb k (by omega); omega

theorem valN_num {x : List UInt8} {m : Int} (h : num x = some m) : valN x = m := by
  unfold valN
  rw [if_neg, if_pos (num_signed h).2, (num_signed h).1]
  rintro (h1 | h1)
  · rw [List.eq_nil_of_length_eq_zero h1] at h; cases h
  · rw [num_long h1] at h; cases h
theorem skip_app (l r : List UInt8) (h : l ≠ []) : skip (l ++ r) = skip l ++ r := by
  cases l with
  | nil => exact absurd rfl h
  | cons x t => unfold skip; simp only [List.cons_append, List.head?_cons]; by_cases hx : some x = some 45 <;> simp [hx]
theorem skip_take_succ (x : List UInt8) (k : Nat) (c : UInt8) (hx : x[k]? = some c) (h : ¬ (k = 0 ∧ c = 45)) : skip (x.take (k + 1)) = skip (x.take k) ++ [c] := by
  rw [List.take_add_one, hx]
  by_cases hk : k = 0
  · subst hk; simp only [List.take_zero, Option.toList]; exact skip_one c (fun e => h ⟨rfl, e⟩)
  · exact skip_snoc _ _ (by intro e; have := congrArg List.length e; have h2 := (List.getElem?_eq_some_iff.1 hx).1; rw [List.length_take, List.length_nil] at this; omega)

set_option maxRecDepth 100000 in
set_option maxHeartbeats 400000 in
theorem value_any (s : ByteArray) (w : World) (hs : s.size ≤ 1000000000) :
    Calls Tryz.prog 31 #[.string s] w (ValPost s.data.toList w) := by
  by_cases hlen : s.size = 0 ∨ 14 < s.size
  · have hnone : num s.data.toList = none := by
      rcases hlen with h | h
      · have : s.data.toList = [] := List.eq_nil_of_length_eq_zero (by simpa using h)
        rw [this]; rfl
      · exact num_long (by simpa using h)
    have HN := Lib.hid hnone
    have HZ := Lib.hid (show valN s.data.toList = 0 by unfold valN; rw [if_pos (by simpa using hlen)])
    clear hnone
    rcases hlen with h | h
    · have hb : ((s.size : Int) == 0) = true := beq_iff_eq.2 (by omega)
      clear h
      go_enter Tryz.func31, Tryz.ntmps31
      go_wp2
      go_ret2
      exact valPost_none HZ.out HN.out rfl
    · have hb : ((s.size : Int) == 0) = false := beq_eq_false_iff_ne.2 (by omega)
      have hb2 : decide (14 < (s.size : Int)) = true := decide_eq_true (by omega)
      go_enter Tryz.func31, Tryz.ntmps31
      go_wp2
      go_ret2
      exact valPost_none HZ.out HN.out rfl
  · have h0 : 0 < s.size := by omega
    have h14 : s.size ≤ 14 := by omega
    clear hlen
    have hb : ((s.size : Int) == 0) = false := beq_eq_false_iff_ne.2 (by omega)
    have hb2 : decide (14 < (s.size : Int)) = false := decide_eq_false (by omega)
    go_enter Tryz.func31, Tryz.ntmps31
    go_wp2
    go_loop [4, 5] (fun n i => ∃ k d : Nat, k ≤ s.size ∧ i = .int .i64 k ∧ n = .int .i64 d ∧ Hid (d = dval (skip (s.data.toList.take k))) ∧ Hid (∀ c ∈ skip (s.data.toList.take k), isDig c)) (fun _ i => s.size - (intOf i).toNat)
    case atStart => exact ⟨0, 0, Nat.zero_le _, rfl, rfl, Lib.hid rfl, Lib.hid (by simp [skip])⟩
    case round =>
      obtain ⟨k, d, hk, rfl, rfl, HV, HD⟩ := hrel
      clear hb hb2
      have hbd : (d : Int) < e14 := by
        unfold e14
        have h1 := dval_lt _ HD.out
        rw [← HV.out] at h1
        have h2 : (skip (s.data.toList.take k)).length ≤ 14 := Nat.le_trans (skip_len _) (by simp; omega)
        have h3 := Nat.pow_le_pow_right (show 1 ≤ 10 by decide) h2
        have h4 : (10 : Nat) ^ 14 = 100000000000000 := by decide
        omega
      have HBD : Hid (True → (d : Int) < e14) := Lib.hid fun _ => hbd
      clear hbd
      by_cases hlt : k < s.size
      · have hxk : s.data.toList[k]? = some s[k] := by rw [List.getElem?_eq_getElem (by simpa using hlt)]; rfl
        have HXK := Lib.hid hxk
        clear hxk
        have hcl := s[k].toNat_lt
        by_cases hm : k = 0 ∧ s[k] = 45
        · obtain ⟨rfl, h45⟩ := hm
          have hb45 : ((s[0].toNat : Int) == 45) = true := by rw [h45]; rfl
          have H45 := Lib.hid h45
          clear h45
          go_wp2
          go_round
          case rel => exact ⟨1, 0, by omega, by go_num, by rw [HV.out]; simp [skip, dval], Lib.hid (by rw [List.take_add_one, HXK.out, H45.out]; simp [skip, dval]), Lib.hid (by rw [List.take_add_one, HXK.out, H45.out]; simp [skip])⟩
          case measure => simp [intOf]; omega
        · have HSK := Lib.hid (skip_take_succ _ k s[k] HXK.out hm)
          have hguard : ((k : Int) == 0) = true → ((s[k].toNat : Int) == 45) = false := by
            intro e
            simp at e
            simp
            intro h
            exact hm ⟨by omega, by apply UInt8.toNat_inj.1; show s[k].toNat = 45; omega⟩
          have HREL : Hid (48 ≤ (s[k].toNat : Int) ∧ (s[k].toNat : Int) ≤ 57 → ∃ k' d' : Nat, k' ≤ s.size ∧ Value.int .i64 ((k : Int) + 1) = .int .i64 k' ∧ Value.int .i64 (10 * (d : Int) + ((s[k].toNat : Int) - 48)) = .int .i64 d' ∧ Hid (d' = dval (skip (s.data.toList.take k'))) ∧ Hid (∀ c ∈ skip (s.data.toList.take k'), isDig c)) := Lib.hid fun ⟨hd1, hd2⟩ =>
              ⟨k + 1, 10 * d + (s[k].toNat - 48), by omega, by go_num, by congr 1; omega, Lib.hid (by rw [HSK.out, dval_snoc, ← HV.out]), Lib.hid (by
                rw [HSK.out]; intro c hc
                rcases List.mem_append.1 hc with hc | hc
                · exact HD.out c hc
                · rw [List.mem_singleton.1 hc]; unfold isDig; omega)⟩
          clear hcl
          have HW1 : Hid (wrap64 (10 * (d : Int)) = 10 * (d : Int)) := Lib.hid <| by have := HBD.out trivial; unfold e14 at this; unfold wrap64; omega
          have HW2 : Hid (wrap64 (10 * (d : Int) + ((s[k].toNat : Int) - 48)) = 10 * (d : Int) + ((s[k].toNat : Int) - 48)) := Lib.hid <| by have := HBD.out trivial; have := s[k].toNat_lt; unfold e14 at *; unfold wrap64; omega
          have HIN : Hid (s[k] ∈ skip s.data.toList) := Lib.hid (by
                have h2 : skip s.data.toList = skip (s.data.toList.take (k + 1)) ++ s.data.toList.drop (k + 1) := by
                    rw [← skip_app _ _ (by intro e; have := congrArg List.length e; rw [List.length_take, List.length_nil, Array.length_toList] at this; have : s.data.size = s.size := rfl; omega), List.take_append_drop]
                rw [h2, HSK.out]; simp)
          have HZ : Hid (¬ (48 ≤ (s[k].toNat : Int) ∧ (s[k].toNat : Int) ≤ 57) → valN s.data.toList = 0) := Lib.hid fun hd => by
              unfold valN; split
              · rfl
              · rw [if_neg]; intro hall; have := hall _ HIN.out; unfold isDig at this; omega
          have HN : Hid (¬ (48 ≤ (s[k].toNat : Int) ∧ (s[k].toNat : Int) ≤ 57) → num s.data.toList = none) := Lib.hid fun hd => by
              cases hh : num s.data.toList with
              | none => rfl
              | some m =>
                exfalso
                have h1 := (num_signed hh).2 s[k] HIN.out
                unfold isDig at h1; omega
          clear hm
          by_cases hk0 : k = 0
          · subst hk0
            have hb45 := hguard rfl
            clear hguard
            go_wp2
            · go_ret2
              exact valPost_none (HZ.out (by omega)) (HN.out (by omega)) rfl
            · go_round
              case rel => rw [HW1.out, HW2.out]; exact HREL.out (by omega)
              case measure => simp [intOf]; omega
            · go_ret2
              exact valPost_none (HZ.out (by omega)) (HN.out (by omega)) rfl
          · clear hguard
            go_wp2
            · go_ret2
              exact valPost_none (HZ.out (by omega)) (HN.out (by omega)) rfl
            · go_round
              case rel => rw [HW1.out, HW2.out]; exact HREL.out (by omega)
              case measure => simp [intOf]; omega
            · go_ret2
              exact valPost_none (HZ.out (by omega)) (HN.out (by omega)) rfl
      · have HKS := Lib.hid (show k = s.size by omega)
        have htk : s.data.toList.take k = s.data.toList := List.take_of_length_le (by rw [HKS.out]; simp)
        have HVN : Hid (valN s.data.toList = signedVal s.data.toList) := Lib.hid (by
          unfold valN; rw [if_neg (by rw [Array.length_toList]; have : s.data.size = s.size := rfl; omega), if_pos (by have := HD.out; rwa [htk] at this)])
        have hhead : s.data.toList.head? = some s[0] := by
          rw [List.head?_eq_getElem?, List.getElem?_eq_getElem (by simpa using h0)]; rfl
        have hcl := s[0].toNat_lt
        by_cases h45 : s[0] = 45
        · have hb45 : ((s[0].toNat : Int) == 45) = true := by rw [h45]; rfl
          have HSV := Lib.hid (show signedVal s.data.toList = -(d : Int) by unfold signedVal; rw [hhead, h45, if_pos rfl, HV.out, htk])
          clear h45 hhead htk
          have hw : wrap64 (-(d : Int)) = -(d : Int) := by have := HBD.out trivial; unfold e14 at this; unfold wrap64; omega
          go_wp2_with fail
          refine (number_any (-(d : Int)) w (by have := HBD.out trivial; unfold e14 at this; omega) (by have := HBD.out trivial; unfold e14 at this; omega)).mono ?_
          rintro e w' ⟨rfl, rfl⟩
          obtain ⟨y, hy⟩ : ∃ y : ByteArray, y = ⟨(Lib.itoa (-(d : Int))).toArray⟩ := ⟨_, rfl⟩
          rw [← hy]
          have HY := Lib.hid (show y.data.toList = Lib.itoa (-(d : Int)) by rw [hy])
          clear hy
          by_cases heq : Lib.itoa (-(d : Int)) = s.data.toList
          · have hyx : (y.toList == s.toList) = true := by rw [toList_data, toList_data, HY.out, heq]; simp
            have HEQ := Lib.hid heq
            clear heq
            go_wp2_with fail
            refine (within_any (-(d : Int)) (-1000000000000) 1000000000000 w).mono ?_
            rintro e w' ⟨rfl, rfl⟩
            by_cases hin : -maxSaid ≤ (-(d : Int)) ∧ (-(d : Int)) ≤ maxSaid
            · have hwi : withinB (-(d : Int)) (-1000000000000) 1000000000000 = true := by unfold withinB; unfold maxSaid at hin; simp only [Bool.and_eq_true, decide_eq_true_eq]; exact hin
              rw [hwi]
              have HN := Lib.hid (show num s.data.toList = some (-(d : Int)) from num_some.2 ⟨HEQ.out.symm, hin.1, hin.2⟩)
              clear hwi hin
              go_wp2
              go_ret2
              exact valPost_some (HVN.out.trans HSV.out) HN.out rfl
            · have hwi : withinB (-(d : Int)) (-1000000000000) 1000000000000 = false := by unfold withinB; unfold maxSaid at hin; simp only [Bool.and_eq_false_iff, decide_eq_false_iff_not]; omega
              rw [hwi]
              have HN := Lib.hid (show num s.data.toList = none by
                cases hh : num s.data.toList with
                | none => rfl
                | some m => exact absurd (by have h1 := (num_signed hh).1; have h2 := (num_some.1 hh).2; rw [h1, HSV.out] at h2; exact h2) hin)
              clear hwi hin
              go_wp2
              go_ret2
              exact valPost_none (HVN.out.trans HSV.out) HN.out rfl
          · have hyx : (y.toList == s.toList) = false := by rw [toList_data, toList_data, HY.out]; simpa using heq
            have HN := Lib.hid (show num s.data.toList = none by
                cases hh : num s.data.toList with
                | none => rfl
                | some m => exact absurd (by have h1 := (num_signed hh).1; have h2 := (num_some.1 hh).1; rw [h1, HSV.out] at h2; exact h2.symm) heq)
            clear heq
            go_wp2
            go_ret2
            exact valPost_none (HVN.out.trans HSV.out) HN.out rfl
        · have hb45 : ((s[0].toNat : Int) == 45) = false := beq_eq_false_iff_ne.2 (fun e => h45 (UInt8.toNat_inj.1 (by show s[0].toNat = 45; omega)))
          have HSV := Lib.hid (show signedVal s.data.toList = (d : Int) by unfold signedVal; rw [hhead, if_neg (by simpa using h45), HV.out, htk])
          clear h45 hhead htk
          go_wp2_with fail
          refine (number_any (d : Int) w (by have := HBD.out trivial; unfold e14 at this; omega) (by have := HBD.out trivial; unfold e14 at this; omega)).mono ?_
          rintro e w' ⟨rfl, rfl⟩
          obtain ⟨y, hy⟩ : ∃ y : ByteArray, y = ⟨(Lib.itoa (d : Int)).toArray⟩ := ⟨_, rfl⟩
          rw [← hy]
          have HY := Lib.hid (show y.data.toList = Lib.itoa (d : Int) by rw [hy])
          clear hy
          by_cases heq : Lib.itoa (d : Int) = s.data.toList
          · have hyx : (y.toList == s.toList) = true := by rw [toList_data, toList_data, HY.out, heq]; simp
            have HEQ := Lib.hid heq
            clear heq
            go_wp2_with fail
            refine (within_any (d : Int) (-1000000000000) 1000000000000 w).mono ?_
            rintro e w' ⟨rfl, rfl⟩
            by_cases hin : -maxSaid ≤ (d : Int) ∧ (d : Int) ≤ maxSaid
            · have hwi : withinB (d : Int) (-1000000000000) 1000000000000 = true := by unfold withinB; unfold maxSaid at hin; simp only [Bool.and_eq_true, decide_eq_true_eq]; exact hin
              rw [hwi]
              have HN := Lib.hid (show num s.data.toList = some (d : Int) from num_some.2 ⟨HEQ.out.symm, hin.1, hin.2⟩)
              clear hwi hin
              go_wp2
              go_ret2
              exact valPost_some (HVN.out.trans HSV.out) HN.out rfl
            · have hwi : withinB (d : Int) (-1000000000000) 1000000000000 = false := by unfold withinB; unfold maxSaid at hin; simp only [Bool.and_eq_false_iff, decide_eq_false_iff_not]; omega
              rw [hwi]
              have HN := Lib.hid (show num s.data.toList = none by
                cases hh : num s.data.toList with
                | none => rfl
                | some m => exact absurd (by have h1 := (num_signed hh).1; have h2 := (num_some.1 hh).2; rw [h1, HSV.out] at h2; exact h2) hin)
              clear hwi hin
              go_wp2
              go_ret2
              exact valPost_none (HVN.out.trans HSV.out) HN.out rfl
          · have hyx : (y.toList == s.toList) = false := by rw [toList_data, toList_data, HY.out]; simpa using heq
            have HN := Lib.hid (show num s.data.toList = none by
                cases hh : num s.data.toList with
                | none => rfl
                | some m => exact absurd (by have h1 := (num_signed hh).1; have h2 := (num_some.1 hh).1; rw [h1, HSV.out] at h2; exact h2.symm) heq)
            clear heq
            go_wp2
            go_ret2
            exact valPost_none (HVN.out.trans HSV.out) HN.out rfl
end Go.Proofs.YtjamdppihpeijaaGreatDoor
