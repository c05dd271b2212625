/- The library's Cut, LastIndexByte and Split in the forms that 'untwist' uses, and the plain law of one line of a text; the condition is 'Env' alone. -/
import Derived.Test.YtjamdppihpeijaaGreatDoorPTakeB
import Derived.Test.YtjamdppihpeijaaGreatDoorPTakeL
namespace Go.Proofs.YtjamdppihpeijaaGreatDoor
open Go.RowKit Go.Shelf

theorem cut_no (s : ByteArray) (w : World) (he : Env w) (hs : s.size < 4294967281) (h : (10 : UInt8) ∉ s.data.toList) :
    Calls Tryz.prog 22 #[.string s, .string ⟨#[10]⟩] w fun e w' => e = .returned (.tuple #[.string s, .string ⟨#[]⟩, .bool false]) ∧ Below w.heap.size w w' := by
  obtain ⟨m, hm⟩ := he.maxLen
  refine (Tryz.strings_Cut s ⟨#[10]⟩ m w hs hm).mono ?_
  rintro e w' ⟨rfl, n, rfl⟩
  refine ⟨?_, below_drewN _ _ _⟩
  rw [show (ByteArray.mk #[10]).data.toList = [10] from rfl, cut_none 10 _ h]
theorem cut_yes (s : ByteArray) (w : World) (a b : List UInt8) (he : Env w) (hs : s.size < 4294967281) (e : s.data.toList = a ++ 10 :: b) (h : (10 : UInt8) ∉ a) :
    Calls Tryz.prog 22 #[.string s, .string ⟨#[10]⟩] w fun e w' => e = .returned (.tuple #[.string ⟨a.toArray⟩, .string ⟨b.toArray⟩, .bool true]) ∧ Below w.heap.size w w' := by
  obtain ⟨m, hm⟩ := he.maxLen
  refine (Tryz.strings_Cut s ⟨#[10]⟩ m w hs hm).mono ?_
  rintro e' w' ⟨rfl, n, rfl⟩
  refine ⟨?_, below_drewN _ _ _⟩
  rw [show (ByteArray.mk #[10]).data.toList = [10] from rfl, e, cut_first 10 a b h]
theorem last_no (s : ByteArray) (w : World) (hs : s.size < 4294967281) (h : (32 : UInt8) ∉ s.data.toList) :
    Calls Tryz.prog 23 #[.string s, .int .u8 32] w fun e w' => e = .returned (.int .i64 (-1)) ∧ w = w' := by
  refine (Tryz.strings_LastIndexByte s 32 (by omega) w).mono ?_
  rintro e w' ⟨rfl, rfl⟩
  exact ⟨by rw [show (32 : Int) = ((32 : UInt8).toNat : Int) from rfl, last_none 32 s h], rfl⟩
theorem last_yes (s : ByteArray) (w : World) (p q : List UInt8) (hs : s.size < 4294967281) (e : s.data.toList = p ++ 32 :: q) (h : (32 : UInt8) ∉ q) :
    Calls Tryz.prog 23 #[.string s, .int .u8 32] w fun e w' => e = .returned (.int .i64 p.length) ∧ w = w' := by
  refine (Tryz.strings_LastIndexByte s 32 (by omega) w).mono ?_
  rintro e' w' ⟨rfl, rfl⟩
  exact ⟨by rw [show (32 : Int) = ((32 : UInt8).toNat : Int) from rfl, last_some 32 s p q e h], rfl⟩
/-- Split: words that lie in a new block. -/
theorem split_any (s : ByteArray) (w : World) (he : Env w) (hs : s.size < 4294967281) :
    Calls Tryz.prog 24 #[.string s, .string ⟨#[32]⟩] w fun e w' => Below w.heap.size w w' ∧ ∃ ss : List ByteArray, e = .returned (.slice (some ⟨w.heap.size, 0, none⟩) ss.length ss.length) ∧ ss.map (·.data.toList) = splitC 32 s.data.toList ∧ Rd Value.string w' (some ⟨w.heap.size, 0, none⟩) ss := by
  obtain ⟨m, hm⟩ := he.maxLen
  refine (Tryz.strings_Split s ⟨#[32]⟩ m w hs hm (by decide)).mono ?_
  rintro e' w' ⟨rfl, rfl⟩
  refine ⟨below_alloc _ _, Lib.splitB ⟨#[32]⟩ 0 (Lib.countB s ⟨#[32]⟩) s, ?_, splitB_eq 32 s, ?_⟩
  · rw [Lib.splitB_all ⟨#[32]⟩ (by decide) 0 _ s rfl]
  · exact .inr ⟨w.heap.size, 0, rfl, by simp, fun j x hj => by
      rw [Nat.zero_add]
      have hnew := heap_alloc_new w (.cells ((Lib.splitB ⟨#[32]⟩ 0 (Lib.countB s ⟨#[32]⟩) s).map Value.string).toArray 9)
      rw [cell_of hnew j]
      simp [hj]⟩

theorem num_nil : num [] = none := by
  cases h : num [] with
  | none => rfl
  | some n => have := (num_some.1 h).1; exact absurd this.symm (by unfold Lib.itoa; split <;> simp [dec_ne])
theorem nums_empty (l : List (List UInt8)) (h : [] ∈ l) : nums l = none := by
  obtain ⟨k, hk⟩ := List.mem_iff_getElem?.1 h
  exact nums_take_none hk num_nil

/-- One line of a text as the program reads it. -/
theorem readL_line {σ : Type} (add : σ → List (List UInt8) → Option σ) (f : Nat) (sum : Int) (m : Nat) (st : σ) (a b p q : List UInt8) (h10 : (10 : UInt8) ∉ a) (ha : a = p ++ 32 :: q) (h32 : (32 : UInt8) ∉ q) :
    readL add (f + 1) sum (a ++ 10 :: b) m st =
      if [] ∈ splitC 32 p then .error (m, 103) else match num q with
      | none => .error (m, 103)
      | some chk =>
        if (splitC 32 p).head? = some [69] then
          match nums (splitC 32 p).tail with
          | some [k] => if b ≠ [] then .error (m, 103) else if chk = sumL sum p ∧ k = (m : Int) - 1 then .ok st else .error (m, 104)
          | _ => .error (m, 103)
        else match add st (splitC 32 p) with
          | none => .error (m, 103)
          | some st' => if chk = sumL sum p then readL add f (sumL (sumL sum p) (32 :: q ++ [10])) b (m + 1) st' else .error (m, 104) := by
  subst ha
  have hW := splitC_last 32 p q h32
  have hne := splitC_ne 32 p
  rw [readL, cutNL_some _ _ h10]
  simp only
  rw [hW]
  have hlast : (splitC 32 p ++ [q]).getLastD [] = q := by simp [List.getLastD_eq_getLast?]
  have hbody : bodyOf (p ++ 32 :: q) (splitC 32 p ++ [q]) = p := by
    unfold bodyOf; rw [hlast, show (p ++ 32 :: q).length - q.length - 1 = p.length by simp; omega, List.take_left' rfl]
  have hlen : ¬ (splitC 32 p ++ [q]).length < 2 := by
    have : 0 < (splitC 32 p).length := List.length_pos_iff.2 hne
    simp; omega
  rw [hlast, hbody, List.dropLast_concat]
  have hhead : (splitC 32 p ++ [q]).head? = (splitC 32 p).head? := by
    cases h : splitC 32 p with
    | nil => exact absurd h hne
    | cons x r => rfl
  rw [hhead]
  have hs : sumL sum (p ++ 32 :: q ++ [10]) = sumL (sumL sum p) (32 :: q ++ [10]) := by rw [← sumL_append]; simp
  rw [hs]
  by_cases he : [] ∈ splitC 32 p
  · rw [if_pos (.inl (by simp [he])), if_pos he]
  · by_cases hq : q = []
    · subst hq
      rw [if_pos (.inl (by simp)), if_neg he, num_nil]
    · have hno : ¬ ([] ∈ splitC 32 p ++ [q] ∨ (splitC 32 p ++ [q]).length < 2) := by
        rintro (h | h)
        · simp [he] at h; exact hq h
        · exact hlen h
      rw [if_neg hno, if_neg he]
      rfl
theorem readL_none {σ : Type} (add : σ → List (List UInt8) → Option σ) (f : Nat) (sum : Int) (m : Nat) (st : σ) (l : List UInt8) (hf : 0 < f) (h : (10 : UInt8) ∉ l) : readL add f sum l m st = .error (m, 103) := by
  obtain ⟨f', rfl⟩ : ∃ f', f = f' + 1 := ⟨f - 1, by omega⟩
  rw [readL, cutNL_none _ h]
theorem readL_word {σ : Type} (add : σ → List (List UInt8) → Option σ) (f : Nat) (sum : Int) (m : Nat) (st : σ) (a b : List UInt8) (hf : 0 < f) (h : (10 : UInt8) ∉ a) (h32 : (32 : UInt8) ∉ a) : readL add f sum (a ++ 10 :: b) m st = .error (m, 103) := by
  obtain ⟨f', rfl⟩ : ∃ f', f = f' + 1 := ⟨f - 1, by omega⟩
  rw [readL, cutNL_some _ _ h]; simp only
  rw [if_pos (.inr (by rw [splitC_none 32 a h32]; simp))]
theorem addBook_empty {st : Bk} {ws : List (List UInt8)} (h : [] ∈ ws) (h0 : ws.head? ≠ some []) : addBook st ws = none := by
  have : [] ∈ ws.tail := by
    cases ws with
    | nil => simp at h
    | cons x r =>
      rcases List.mem_cons.1 h with rfl | h
      · exact absurd rfl h0
      · exact h
  unfold addBook; rw [nums_empty _ this]
theorem need_nil : need [] = none := by decide
theorem addLog_empty {st : List En} {ws : List (List UInt8)} (h : [] ∈ ws) (h0 : ws.head? ≠ some []) : addLog st ws = none := by
  unfold addLog
  split
  · rename_i hc
    split
    · rename_i d ns h1 h2
      rw [if_neg]
      intro hcmd
      match ws, hc with
      | x0 :: x1 :: x2 :: r, _ =>
        simp at h h0 h1 h2 hcmd
        rcases h with h | h | h | h
        · exact h0 h
        · rw [h, num_nil] at h1; cases h1
        · rw [h] at hcmd; simp [isCmd, need_nil] at hcmd
        · rw [nums_empty _ h] at h2; cases h2
      | [], hc => simp at hc
      | [_], hc => simp at hc
      | [_, _], hc => simp at hc
    · rfl
  · rfl
end Go.Proofs.YtjamdppihpeijaaGreatDoor
