/- Plain Lean on texts: a text cut at a byte ('splitC'), and that the library's words for Cut, Split and LastIndexByte are this; no condition. -/
import Derived.Lib.Split
import Derived.Lib.SplitLaws
import Derived.Lib.IndexBytes
import Derived.Lib.IndexMore
import Derived.Lib.LastIndexByte
namespace Go.Proofs.YtjamdppihpeijaaGreatDoor

/-- A text cut at each c. -/
def splitC (c : UInt8) : List UInt8 → List (List UInt8)
  | [] => [[]]
  | x :: r => if x = c then [] :: splitC c r else
    match splitC c r with
    | [] => [[x]]
    | w :: t => (x :: w) :: t

theorem splitC_ne (c : UInt8) (l : List UInt8) : splitC c l ≠ [] := by
  cases l with
  | nil => simp [splitC]
  | cons x r => unfold splitC; split; simp; split <;> simp
theorem splitC_none (c : UInt8) (l : List UInt8) (h : c ∉ l) : splitC c l = [l] := by
  induction l with
  | nil => rfl
  | cons x r ih =>
    have hx : ¬ x = c := fun e => h (by simp [e])
    have hr : c ∉ r := fun e => h (by simp [e])
    unfold splitC; rw [if_neg hx, ih hr]
theorem splitC_append (c : UInt8) (a b : List UInt8) : splitC c (a ++ c :: b) = splitC c a ++ splitC c b := by
  induction a with
  | nil => simp [splitC]
  | cons x r ih =>
    simp only [List.cons_append]
    rw [splitC, ih]
    conv => rhs; rw [splitC]
    by_cases hx : x = c
    · rw [if_pos hx, if_pos hx]; rfl
    · rw [if_neg hx, if_neg hx]
      cases h : splitC c r with
      | nil => exact absurd h (splitC_ne c r)
      | cons w t => rfl
theorem splitC_first (c : UInt8) (a b : List UInt8) (h : c ∉ a) : splitC c (a ++ c :: b) = a :: splitC c b := by
  rw [splitC_append, splitC_none c a h]; rfl
theorem splitC_last (c : UInt8) (a b : List UInt8) (h : c ∉ b) : splitC c (a ++ c :: b) = splitC c a ++ [b] := by
  rw [splitC_append, splitC_none c b h]
/-- Letters behind the last c are the last word. -/
theorem splitC_snoc (c : UInt8) (l r : List UInt8) (h : c ∉ r) : splitC c (l ++ r) = (splitC c l).dropLast ++ [(splitC c l).getLast (splitC_ne c l) ++ r] := by
  by_cases hl : c ∈ l
  · obtain ⟨b, a, e, hb⟩ := List.eq_append_cons_of_mem (a := c) (xs := l.reverse) (by simpa using hl)
    have e2 : l = a.reverse ++ c :: b.reverse := by
      have := congrArg List.reverse e; simpa using this
    have hb2 : c ∉ b.reverse := by simpa using hb
    have h1 : splitC c l = splitC c a.reverse ++ [b.reverse] := by rw [e2, splitC_last _ _ _ hb2]
    have h2 : splitC c (l ++ r) = splitC c a.reverse ++ [b.reverse ++ r] := by
      rw [e2, List.append_assoc, List.cons_append, splitC_last _ _ _ (by simp only [List.mem_append]; exact fun h3 => h3.elim hb2 h)]
    rw [h2]
    simp only [h1, List.dropLast_concat, List.getLast_append, List.getLast_singleton]
    simp
  · have h1 : splitC c l = [l] := splitC_none c l hl
    rw [splitC_none c (l ++ r) (by simp only [List.mem_append]; exact fun h3 => h3.elim hl h)]
    simp [h1]

theorem indexByte_none (c : UInt8) (l : List UInt8) (h : c ∉ l) : Lib.indexByte l c = -1 := by
  induction l with
  | nil => rfl
  | cons x r ih =>
    have hx : (x == c) = false := by simpa using fun e : x = c => h (by simp [e])
    unfold Lib.indexByte; rw [hx, ih (fun e => h (by simp [e]))]; rfl
theorem indexByte_first (c : UInt8) (a b : List UInt8) (h : c ∉ a) : Lib.indexByte (a ++ c :: b) c = a.length := by
  induction a with
  | nil => simp [Lib.indexByte]
  | cons x r ih =>
    have hx : (x == c) = false := by simpa using fun e : x = c => h (by simp [e])
    simp only [List.cons_append, Lib.indexByte, hx, ih (fun e => h (by simp [e]))]
    rw [if_neg (by simp), if_neg (by simp)]; simp

theorem splitK_eq (c : UInt8) : ∀ (k : Nat) (s : List UInt8), s.count c = k → Lib.splitK [c] 0 k s = splitC c s
  | 0, s, h => by
    rw [splitC_none c s (List.count_eq_zero.1 h)]; rfl
  | k + 1, s, h => by
    have hm : c ∈ s := List.count_pos_iff.1 (by omega)
    obtain ⟨a, b, e, ha⟩ := List.eq_append_cons_of_mem hm
    subst e
    have hc : b.count c = k := by rw [List.count_append, List.count_eq_zero.2 ha, List.count_cons_self] at h; omega
    rw [Lib.splitK, Lib.index_one, indexByte_first c a b ha, if_neg (by simp), splitC_first c a b ha]
    congr 1
    · simp
    · rw [← splitK_eq c k b hc]; congr 1; simp
theorem splitB_eq (c : UInt8) (s : ByteArray) : (Lib.splitB ⟨#[c]⟩ 0 (Lib.countB s ⟨#[c]⟩) s).map (·.data.toList) = splitC c s.data.toList := by
  rw [Lib.splitB_data, ← splitK_eq c _ s.data.toList rfl]
  congr 1
  exact Lib.count_one c s.data.toList

theorem cut_none (c : UInt8) (l : List UInt8) (h : c ∉ l) : Lib.cut l [c] = (l, [], false) := by
  unfold Lib.cut; rw [Lib.index_one, indexByte_none c l h]; rfl
theorem cut_first (c : UInt8) (a b : List UInt8) (h : c ∉ a) : Lib.cut (a ++ c :: b) [c] = (a, b, true) := by
  unfold Lib.cut; rw [Lib.index_one, indexByte_first c a b h, if_pos (by omega)]
  have h2 : a ++ c :: b = (a ++ [c]) ++ b := by simp
  have h1 : ((a.length : Int).toNat + [c].length) = (a ++ [c]).length := by simp
  rw [h1]
  simp only [Int.toNat_natCast]
  rw [List.take_left' rfl, h2, List.drop_left' rfl]

theorem last_none (c : UInt8) (s : ByteArray) (h : c ∉ s.data.toList) : Lib.lastIndexByte s (c.toNat : Int) = -1 := by
  rcases Lib.lastIndexByte_spec s (c.toNat : Int) with ⟨e, _⟩ | ⟨i, hi, e, hc, _⟩
  · exact e
  · exfalso
    apply h
    have : s.data[i]! = c := UInt8.toNat_inj.1 (by omega)
    have hi' : i < s.data.size := hi
    rw [getElem!_pos s.data i hi'] at this
    rw [← this]; exact Array.getElem_mem_toList hi'
theorem last_some (c : UInt8) (s : ByteArray) (a b : List UInt8) (e : s.data.toList = a ++ c :: b) (h : c ∉ b) : Lib.lastIndexByte s (c.toNat : Int) = a.length := by
  have hsz : s.data.size = a.length + b.length + 1 := by
    have := congrArg List.length e; simpa [Nat.add_assoc] using this
  have hget : ∀ j (hj : j < s.data.size), s.data[j]! = (a ++ c :: b)[j]'(by simp; omega) := by
    intro j hj
    rw [getElem!_pos s.data j hj, ← Array.getElem_toList]
    simp only [e]
  rcases Lib.lastIndexByte_spec s (c.toNat : Int) with ⟨_, hno⟩ | ⟨i, hi, e2, hc, hno⟩
  · exfalso
    apply hno a.length (by show a.length < s.data.size; omega)
    rw [hget a.length (by omega)]; simp
  · rw [e2]
    have hi' : i < s.data.size := hi
    by_cases h1 : i < a.length
    · exfalso
      apply hno a.length h1 (by show a.length < s.data.size; omega)
      rw [hget a.length (by omega)]; simp
    · by_cases h2 : i = a.length
      · rw [h2]
      · exfalso
        apply h
        have h3 : s.data[i]! = c := UInt8.toNat_inj.1 (by omega)
        rw [hget i hi', List.getElem_append_right (by omega)] at h3
        obtain ⟨j, hj⟩ : ∃ j, i - a.length = j + 1 := ⟨i - a.length - 1, by omega⟩
        simp only [hj, List.getElem_cons_succ] at h3
        rw [← h3]; exact List.getElem_mem _
/-- A text with a c in it: what stands before the last one, and behind it. -/
theorem last_dec (c : UInt8) (l : List UInt8) (h : c ∈ l) : ∃ a b, l = a ++ c :: b ∧ c ∉ b := by
  obtain ⟨b, a, e, hb⟩ := List.eq_append_cons_of_mem (a := c) (xs := l.reverse) (by simpa using h)
  exact ⟨a.reverse, b.reverse, by have := congrArg List.reverse e; simpa using this, by simpa using hb⟩
end Go.Proofs.YtjamdppihpeijaaGreatDoor
