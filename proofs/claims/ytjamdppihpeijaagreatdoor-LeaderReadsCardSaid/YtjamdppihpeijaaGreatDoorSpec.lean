/- Plain Lean: what a line adds to a book, and to a log, and what reading a text gives; no condition. -/
import Derived.Test.YtjamdppihpeijaaGreatDoorNum
import Derived.Test.YtjamdppihpeijaaGreatDoorCmds
import Derived.Test.YtjamdppihpeijaaGreatDoorSplit
namespace Go.Proofs.YtjamdppihpeijaaGreatDoor

def nth (ns : List Int) (k : Nat) : Int := ns.getD k 0
def letOk (ns : List Int) : Bool := (decide (0 ≤ nth ns 2) && decide (nth ns 2 ≤ 255)) && (decide (0 ≤ nth ns 7) && decide (nth ns 7 ≤ 1))
/-- A book at work: the numbers of its rows, and of its letters. -/
structure Bk where
  rows : List (List Int)
  lets : List (List Int)
def addBook (b : Bk) (ws : List (List UInt8)) : Option Bk :=
  match nums ws.tail with
  | none => none
  | some ns =>
    if b.rows.length + b.lets.length = 300 then none
    else if ws.head? = some [82] ∧ ns.length = 14 ∧ b.lets.length = 0 then some { b with rows := b.rows ++ [ns] }
    else if ws.head? = some [76] ∧ ns.length = 8 then (if letOk ns then some { b with lets := b.lets ++ [ns] } else none)
    else none
/-- An entry of a log: its day, word and numbers. -/
structure En where
  day : Int
  word : List UInt8
  args : List Int
def addLog (l : List En) (ws : List (List UInt8)) : Option (List En) :=
  if ws.head? = some [68] ∧ 3 ≤ ws.length ∧ l.length ≠ 200 then
    match num (ws.getD 1 []), nums (ws.drop 3) with
    | some d, some ns => if isCmd (ws.getD 2 []) ns.length then some (l ++ [⟨d, ws.getD 2 [], ns⟩]) else none
    | _, _ => none
  else none

/-! the check, and reading -/
def stepF (s b : Int) : Int := (s * 37 + b) % 8191
def sumL (n : Int) (l : List UInt8) : Int := l.foldl (fun s c => stepF s (c.toNat : Int)) n
theorem sumL_bd (n : Int) (l : List UInt8) (h0 : 0 ≤ n) (h1 : n < 8191) : 0 ≤ sumL n l ∧ sumL n l < 8191 := by
  induction l generalizing n with
  | nil => exact ⟨h0, h1⟩
  | cons c r ih => exact ih (stepF n c.toNat) (by unfold stepF; omega) (by unfold stepF; omega)
theorem sumL_snoc (n : Int) (l : List UInt8) (c : UInt8) : sumL n (l ++ [c]) = stepF (sumL n l) (c.toNat : Int) := by simp [sumL]
theorem sumL_append (n : Int) (l r : List UInt8) : sumL n (l ++ r) = sumL (sumL n l) r := by simp [sumL]
def cutNL : List UInt8 → Option (List UInt8 × List UInt8)
  | [] => none
  | c :: r => if c = 10 then some ([], r) else (cutNL r).map fun p => (c :: p.1, p.2)
theorem cutNL_none (l : List UInt8) (h : (10 : UInt8) ∉ l) : cutNL l = none := by
  induction l with
  | nil => rfl
  | cons c r ih =>
    unfold cutNL
    rw [if_neg (fun e => h (by simp [e])), ih (fun e => h (by simp [e]))]; rfl
theorem cutNL_some (a b : List UInt8) (h : (10 : UInt8) ∉ a) : cutNL (a ++ 10 :: b) = some (a, b) := by
  induction a with
  | nil => simp [cutNL]
  | cons c r ih =>
    simp only [List.cons_append]
    unfold cutNL
    rw [if_neg (fun e => h (by simp [e])), ih (fun e => h (by simp [e]))]; rfl
/-- What stands before the last word of a line. -/
def bodyOf (line : List UInt8) (ws : List (List UInt8)) : List UInt8 := line.take (line.length - (ws.getLastD []).length - 1)
/-- Reading from the line n on: what is read at last, or the line and the error; 'add' adds a line's words without the check. -/
def readL {σ : Type} (add : σ → List (List UInt8) → Option σ) : Nat → Int → List UInt8 → Nat → σ → Except (Nat × Int) σ
  | 0, _, _, _, _ => .error (0, 103)
  | f + 1, sum, rest, n, st =>
    match cutNL rest with
    | none => .error (n, 103)
    | some (line, more) =>
      let ws := splitC 32 line
      if [] ∈ ws ∨ ws.length < 2 then .error (n, 103)
      else match num (ws.getLastD []) with
        | none => .error (n, 103)
        | some chk =>
          if ws.head? = some [69] then
            match nums ws.dropLast.tail with
            | some [k] => if more ≠ [] then .error (n, 103) else if chk = sumL sum (bodyOf line ws) ∧ k = (n : Int) - 1 then .ok st else .error (n, 104)
            | _ => .error (n, 103)
          else match add st ws.dropLast with
            | none => .error (n, 103)
            | some st' => if chk = sumL sum (bodyOf line ws) then readL add f (sumL sum (line ++ [10])) more (n + 1) st' else .error (n, 104)
def readTop {σ : Type} (add : σ → List (List UInt8) → Option σ) (l : List UInt8) (st : σ) : Except (Nat × Int) σ :=
  if 30000 < l.length then .error (0, 9) else readL add (l.length + 1) 23 l 1 st
theorem readL_code {σ : Type} (add : σ → List (List UInt8) → Option σ) : ∀ (f : Nat) (sum : Int) (l : List UInt8) (n : Nat) (st : σ) (r : Nat × Int), readL add f sum l n st = .error r → r.2 = 103 ∨ r.2 = 104
  | 0, _, _, _, _, r, h => by cases h; exact .inl rfl
  | f + 1, sum, l, n, st, r, h => by
    rw [readL] at h
    split at h
    · cases h; exact .inl rfl
    · rename_i line more hc
      simp only at h
      split at h
      · cases h; exact .inl rfl
      · split at h
        · cases h; exact .inl rfl
        · split at h
          · split at h
            · split at h
              · cases h; exact .inl rfl
              · split at h
                · cases h
                · cases h; exact .inr rfl
            · cases h; exact .inl rfl
          · split at h
            · cases h; exact .inl rfl
            · split at h
              · exact readL_code add f _ _ _ _ r h
              · cases h; exact .inr rfl
theorem readTop_code {σ : Type} (add : σ → List (List UInt8) → Option σ) (l : List UInt8) (st : σ) (r : Nat × Int) (h : readTop add l st = .error r) : r.2 = 9 ∨ r.2 = 103 ∨ r.2 = 104 := by
  unfold readTop at h
  split at h
  · cases h; exact .inl rfl
  · exact .inr (readL_code add _ _ _ _ _ _ h)
end Go.Proofs.YtjamdppihpeijaaGreatDoor
