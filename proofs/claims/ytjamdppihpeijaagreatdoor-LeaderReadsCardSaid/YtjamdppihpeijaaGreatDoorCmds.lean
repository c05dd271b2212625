/- The words of commands and how many numbers each has, in plain Lean; no condition. -/
namespace Go.Proofs.YtjamdppihpeijaaGreatDoor

def cmdMARCH : List UInt8 := [77, 65, 82, 67, 72]
def cmdREST : List UInt8 := [82, 69, 83, 84]
def cmdMARK : List UInt8 := [77, 65, 82, 75]
def cmdSTAR : List UInt8 := [83, 84, 65, 82]
def cmdNEAR : List UInt8 := [78, 69, 65, 82]
def cmdDRINK : List UInt8 := [68, 82, 73, 78, 75]
def cmdJOLT : List UInt8 := [74, 79, 76, 84]
def cmdSETTLE : List UInt8 := [83, 69, 84, 84, 76, 69]
def cmdROW : List UInt8 := [82, 79, 87]
def cmdLETTER : List UInt8 := [76, 69, 84, 84, 69, 82]
def cmds : List (List UInt8 × Nat) := [(cmdMARCH, 9), (cmdREST, 4), (cmdMARK, 6), (cmdSTAR, 2), (cmdNEAR, 3), (cmdDRINK, 1), (cmdJOLT, 2), (cmdSETTLE, 1), (cmdROW, 14), (cmdLETTER, 8)]
/-- How many numbers a word needs; none if it is no command. -/
def need (x : List UInt8) : Option Nat := (cmds.find? fun p => p.1 == x).map (·.2)
def isCmd (x : List UInt8) (n : Nat) : Bool := need x == some n
theorem need_at {x : List UInt8} {k : Nat} {p : List UInt8 × Nat} (hk : cmds[k]? = some p) (h : p.1 = x) (hno : ∀ j q, j < k → cmds[j]? = some q → q.1 ≠ x) : need x = some p.2 := by
  unfold need
  have : cmds.find? (fun p => p.1 == x) = some p := by
    rw [List.find?_eq_some_iff_getElem]
    obtain ⟨hlt, e⟩ := List.getElem?_eq_some_iff.1 hk
    refine ⟨by simpa using h, k, hlt, e, fun j hj => ?_⟩
    have := hno j (cmds[j]'(by omega)) hj (by simp [show j < cmds.length by omega])
    simpa using this
  rw [this]; rfl
theorem need_none {x : List UInt8} (hno : ∀ j q, j < 10 → cmds[j]? = some q → q.1 ≠ x) : need x = none := by
  unfold need
  have : cmds.find? (fun p => p.1 == x) = none := by
    rw [List.find?_eq_none]
    intro q hq
    obtain ⟨j, hj, e⟩ := List.mem_iff_getElem.1 hq
    have := hno j q hj (by rw [List.getElem?_eq_getElem hj, e])
    simpa using this
  rw [this]; rfl
end Go.Proofs.YtjamdppihpeijaaGreatDoor
