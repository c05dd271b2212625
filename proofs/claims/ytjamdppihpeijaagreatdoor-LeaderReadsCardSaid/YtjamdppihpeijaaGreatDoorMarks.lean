/- The reference's 'marks' gives the words of a line, at every text of a size that is not great. -/
import Derived.Test.YtjamdppihpeijaaGreatDoorRd
import Derived.Test.YtjamdppihpeijaaGreatDoorSplit
namespace Go.Proofs.YtjamdppihpeijaaGreatDoor
open Go.RowKit

/-- The bytes of a text from one place to another one. -/
def sub (l : List UInt8) (m : Nat × Nat) : List UInt8 := (l.drop m.1).take (m.2 - m.1)
theorem sub_succ (l : List UInt8) (f i : Nat) (c : UInt8) (hf : f ≤ i) (hc : l[i]? = some c) : sub l (f, i + 1) = sub l (f, i) ++ [c] := by
  unfold sub
  simp only
  rw [show i + 1 - f = (i - f) + 1 by omega, List.take_add_one]
  congr 1
  rw [List.getElem?_drop, show f + (i - f) = i by omega, hc]; rfl
theorem sub_self (l : List UInt8) (f : Nat) : sub l (f, f) = [] := by unfold sub; simp
theorem sub_split (l : List UInt8) (f i t : Nat) (hf : f ≤ i) (ht : i ≤ t) : sub l (f, t) = sub l (f, i) ++ sub l (i, t) := by
  unfold sub
  simp only
  have h1 : l.drop i = (l.drop f).drop (i - f) := by rw [List.drop_drop]; congr 1; omega
  rw [h1, show t - f = (i - f) + (t - i) by omega, List.take_add]
def mkCells (m : Nat × Nat) : List Value := [.int .i64 m.1, .int .i64 m.2]
theorem mkCells_length (ms : List (Nat × Nat)) : (ms.flatMap mkCells).length = ms.length * 2 := by
  induction ms with
  | nil => rfl
  | cons m r ih => rw [List.flatMap_cons, List.length_append, ih]; simp [mkCells]; omega
theorem mkCells_get (ms : List (Nat × Nat)) : ∀ (j : Nat) (m : Nat × Nat), ms[j]? = some m → (ms.flatMap mkCells)[2 * j]? = some (.int .i64 m.1) ∧ (ms.flatMap mkCells)[2 * j + 1]? = some (.int .i64 m.2) := by
  induction ms with
  | nil => intro j m h; simp at h
  | cons x r ih =>
    intro j m h
    cases j with
    | zero => obtain rfl : x = m := by simpa using h
              simp [mkCells]
    | succ j =>
      have := ih j m (by simpa using h)
      rw [List.flatMap_cons]
      have h2 : 2 * (j + 1) = (2 * j) + 1 + 1 := by omega
      rw [h2]
      exact ⟨by simpa [mkCells] using this.1, by simpa [mkCells] using this.2⟩
/-- Marks as they lie in memory, two cells each. -/
def RdM (w : World) (a : Option Addr) (ms : List (Nat × Nat)) : Prop :=
  ms = [] ∨ ∃ b o, a = some ⟨b, o, none⟩ ∧ b < w.heap.size ∧ ∀ j m, ms[j]? = some m → w.cell? ⟨b, o + j * 2, none⟩ = some (.int .i64 m.1) ∧ w.cell? ⟨b, o + j * 2 + 1, none⟩ = some (.int .i64 m.2)
theorem RdM.step {w w' : World} {a : Option Addr} {ms : List (Nat × Nat)} (h : RdM w a ms) (hb : Below w.heap.size w w') : RdM w' a ms := by
  rcases h with h | ⟨b, o, rfl, hl, hc⟩
  · exact .inl h
  · exact .inr ⟨b, o, rfl, Nat.lt_of_lt_of_le hl hb.size, fun j x hj => ⟨(hb.cell (p := ⟨b, o + j * 2, none⟩) hl).trans (hc j x hj).1, (hb.cell (p := ⟨b, o + j * 2 + 1, none⟩) hl).trans (hc j x hj).2⟩⟩
theorem RdM.of_owns {w : World} {base : Nat} {e : TypeId} {v : Value} {n : Nat} {ms : List (Nat × Nat)} (h : w.ownsRow base e 2 v n (ms.flatMap mkCells)) :
    ∃ a c, v = .slice a ms.length c ∧ n = ms.length ∧ ms.length ≤ c ∧ RdM w a ms ∧ (∀ b o s, a = some ⟨b, o, s⟩ → base ≤ b) := by
  have hl : ms.length = n := by have := h.1; rw [mkCells_length] at this; omega
  subst hl
  rcases h.2 with ⟨rfl, h0⟩ | ⟨g, cap, cur, rfl, hb, hg, hn, hm, hs, ht⟩
  · exact ⟨none, 0, by rw [h0], rfl, by omega, .inl (List.eq_nil_of_length_eq_zero h0), fun _ _ _ h => by cases h⟩
  · refine ⟨_, _, rfl, rfl, hn, .inr ⟨g, 0, rfl, (Array.getElem?_eq_some_iff.1 hg).1, fun j x hj => ?_⟩, fun b o s h => by cases h; exact hb⟩
    obtain ⟨e1, e2⟩ := mkCells_get ms j x hj
    have hadd : ∀ j, (⟨g, 0, none⟩ : Addr).add j = ⟨g, j, none⟩ := by intro j; unfold Addr.add; split <;> simp_all
    have h1 := World.ownsRow.cells h (g := g) rfl _ _ e1
    have h2 := World.ownsRow.cells h (g := g) rfl _ _ e2
    rw [hadd] at h1 h2
    rw [Nat.zero_add, Nat.mul_comm j 2]; exact ⟨h1, h2⟩

/-- Each mark begins one place behind the one before; g is one place behind the last one. -/
def MarksAdj (ms : List (Nat × Nat)) (g : Nat) : Prop := (∀ j p q, ms[j]? = some p → ms[j + 1]? = some q → q.1 = p.2 + 1) ∧ ∀ p, ms.getLast? = some p → g = p.2 + 1
theorem MarksAdj.snoc {ms : List (Nat × Nat)} {g i : Nat} (h : MarksAdj ms g) : MarksAdj (ms ++ [(g, i)]) (i + 1) := by
  refine ⟨fun j p q hp hq => ?_, fun p hp => by simp at hp; rw [← hp]⟩
  by_cases h1 : j + 1 < ms.length
  · rw [List.getElem?_append_left (by omega)] at hp
    rw [List.getElem?_append_left h1] at hq
    exact h.1 j p q hp hq
  · rw [List.getElem?_append_right (by omega)] at hq
    have hj : j + 1 - ms.length = 0 := by
      have := (List.getElem?_eq_some_iff.1 hq).1; simp at this; omega
    rw [hj] at hq
    obtain rfl : (g, i) = q := by simpa using hq
    rw [List.getElem?_append_left (by omega)] at hp
    exact h.2 p (by rw [List.getLast?_eq_getElem?, show ms.length - 1 = j by omega]; exact hp)
def MarksGood (l : List UInt8) (f t : Nat) (ms : List (Nat × Nat)) : Prop := ms.map (sub l) = splitC 32 (sub l (f, t)) ∧ (∀ m ∈ ms, m.1 < m.2 ∧ m.2 ≤ t) ∧ MarksAdj ms (t + 1) ∧ ∀ m ∈ ms, f ≤ m.1
def MarksPost (l : List UInt8) (f t : Nat) (w : World) (e : Ending) (w' : World) : Prop :=
  Below w.heap.size w w' ∧ (([] ∈ splitC 32 (sub l (f, t)) ∧ e = .returned (.slice none 0 0)) ∨
    ∃ v ms, e = .returned v ∧ w'.ownsRow w.heap.size 85 2 v ms.length (ms.flatMap mkCells) ∧ MarksGood l f t ms)
theorem infoMark : (Tryz.prog.info? 85).map (fun i => (i.zero, i.size, i.bytes)) = some (some (.agg #[.int .i64 0, .int .i64 0]), 2, 16) := by kernel_rfl

/-- What holds at the head of each round. -/
def MarksAt (l : List UInt8) (f t i g : Nat) (ms : List (Nat × Nat)) : Prop :=
  f ≤ g ∧ g ≤ i ∧ i ≤ t + 1 ∧ ms.length ≤ i ∧ (∀ m ∈ ms, m.1 < m.2 ∧ m.2 ≤ t) ∧
  (i ≤ t → ms.map (sub l) ++ [sub l (g, i)] = splitC 32 (sub l (f, i))) ∧ (i = t + 1 → ms.map (sub l) = splitC 32 (sub l (f, t))) ∧ MarksAdj ms g ∧ (i = t + 1 → g = t + 1) ∧ ∀ m ∈ ms, f ≤ m.1
theorem marksAt_go {l : List UInt8} {f t i g : Nat} {ms : List (Nat × Nat)} {c : UInt8} (h : MarksAt l f t i g ms) (hi : i < t) (hc : l[i]? = some c) (h32 : c ≠ 32) : MarksAt l f t (i + 1) g ms := by
  obtain ⟨h1, h2, h3, h4, h5, h6, h7, hadj, hg8, hfm⟩ := h
  refine ⟨h1, by omega, by omega, by omega, h5, fun _ => ?_, fun e => by omega, hadj, fun e => by omega, hfm⟩
  rw [sub_succ l f i c (by omega) hc, sub_succ l g i c h2 hc, splitC_snoc 32 (sub l (f, i)) [c] (by simpa using fun e : (32 : UInt8) = c => h32 e.symm)]
  have := h6 (by omega)
  simp only [← this, List.dropLast_concat, List.getLast_append, List.getLast_singleton]
  simp
theorem marksAt_cut {l : List UInt8} {f t i g : Nat} {ms : List (Nat × Nat)} (h : MarksAt l f t i g ms) (hi : i < t) (hc : l[i]? = some 32) (hg : i ≠ g) : MarksAt l f t (i + 1) (i + 1) (ms ++ [(g, i)]) := by
  obtain ⟨h1, h2, h3, h4, h5, h6, h7, hadj, hg8, hfm⟩ := h
  refine ⟨by omega, Nat.le_refl _, by omega, by simp; omega, ?_, fun _ => ?_, fun e => by omega, hadj.snoc, fun e => e, ?_⟩
  · intro m hm
    rcases List.mem_append.1 hm with hm | hm
    · exact h5 m hm
    · rw [List.mem_singleton.1 hm]; exact ⟨by omega, by omega⟩
  · rw [sub_succ l f i 32 (by omega) hc, sub_self, splitC_append, ← h6 (by omega)]; simp [splitC]
  · intro m hm
    rcases List.mem_append.1 hm with hm | hm
    · exact hfm m hm
    · rw [List.mem_singleton.1 hm]; exact h1
theorem marksAt_end {l : List UInt8} {f t g : Nat} {ms : List (Nat × Nat)} (h : MarksAt l f t t g ms) (hg : t ≠ g) : MarksAt l f t (t + 1) (t + 1) (ms ++ [(g, t)]) := by
  obtain ⟨h1, h2, h3, h4, h5, h6, h7, hadj, hg8, hfm⟩ := h
  refine ⟨by omega, Nat.le_refl _, by omega, by simp; omega, ?_, fun e => by omega, fun _ => ?_, hadj.snoc, fun e => e, ?_⟩
  · intro m hm
    rcases List.mem_append.1 hm with hm | hm
    · exact h5 m hm
    · rw [List.mem_singleton.1 hm]; exact ⟨by omega, by omega⟩
  · rw [← h6 (by omega)]; simp
  · intro m hm
    rcases List.mem_append.1 hm with hm | hm
    · exact hfm m hm
    · rw [List.mem_singleton.1 hm]; exact h1
theorem marksAt_empty {l : List UInt8} {f t i : Nat} {ms : List (Nat × Nat)} (h : MarksAt l f t i i ms) (hi : i ≤ t) (hc : i < t → l[i]? = some 32) : [] ∈ splitC 32 (sub l (f, t)) := by
  obtain ⟨h1, h2, h3, h4, h5, h6, h7, hadj, hg8, hfm⟩ := h
  have h8 := h6 hi
  rw [sub_self] at h8
  by_cases he : i = t
  · subst he; rw [← h8]; simp
  · rw [sub_split l f i t (by omega) hi, sub_split l i (i + 1) t (by omega) (by omega), sub_succ l i i 32 (Nat.le_refl _) (hc (by omega)), sub_self, List.nil_append, List.singleton_append, splitC_append, ← h8]
    simp

theorem cell_two_new' (w : World) (x y : Value) (e : TypeId) : ∀ j u, [x, y][j]? = some u → (w.alloc (.cells #[x, y] e)).cell? ((⟨w.heap.size, 0, none⟩ : Addr).add j) = some u := by
  intro j u h
  have hadd : (⟨w.heap.size, 0, none⟩ : Addr).add j = ⟨w.heap.size, j, none⟩ := by unfold Addr.add; split <;> simp_all
  rw [hadd]
  match j, h with
  | 0, h => obtain rfl : x = u := by simpa using h
            simp [go_sem]
  | 1, h => obtain rfl : y = u := by simpa using h
            simp [go_sem]
set_option maxHeartbeats 400000 in
theorem marks_any (s : ByteArray) (f t : Nat) (w : World) (hf : f ≤ t) (ht : t ≤ s.size) (hs : s.size ≤ 1000000000) :
    Calls Tryz.prog 30 #[.string s, .int .i64 f, .int .i64 t] w (MarksPost s.data.toList f t w) := by
  obtain ⟨i0, hi, hz0, hz1, hz2⟩ := info_parts infoMark
  go_enter Tryz.func30, Tryz.ntmps30
  go_wp2
  go_loopw [7, 8, 9] (fun v g i wr => ∃ (k b : Nat) (ms : List (Nat × Nat)), i = .int .i64 k ∧ g = .int .i64 b ∧ Hid (MarksAt s.data.toList f t k b ms) ∧ wr.ownsRow w.heap.size 85 2 v ms.length (ms.flatMap mkCells) ∧ Below w.heap.size w wr) (fun _ _ i _ => t + 1 - (intOf i).toNat)
  case atStart =>
    refine ⟨f, f, [], rfl, rfl, Lib.hid ⟨Nat.le_refl _, Nat.le_refl _, by omega, by simp, by simp, fun _ => by simp [sub_self, splitC], fun e => by omega, ⟨by simp, by simp⟩, fun e => by omega, by simp⟩, World.ownsRow_nil _ _ _ _, Below.refl _ _⟩
  case round =>
    obtain ⟨k, b, ms, rfl, rfl, HM, hown, hb⟩ := hrel
    have HOWN := Lib.hid hown
    clear hown
    have hkt : k ≤ t + 1 := HM.out.2.2.1
    have hbk : b ≤ k := HM.out.2.1
    by_cases hlt : k ≤ t
    · by_cases hgo : k < t
      · have hks : k < s.size := by omega
        have HC : Hid (s.data.toList[k]? = some s[k]) := Lib.hid (by rw [List.getElem?_eq_getElem (by simpa using hks)]; rfl)
        by_cases h32 : s[k] = 32
        · have hc1 : ((s[k].toNat : Int) == 32) = true := by rw [h32]; rfl
          have hc2 : ((s[k].toNat : Int) != 32) = false := by rw [h32]; rfl
          have HC2 : Hid (s.data.toList[k]? = some 32) := Lib.hid (HC.out.trans (by rw [h32]))
          clear h32
          by_cases hkb : k = b
          · subst hkb
            go_wp2
            go_ret
            exact ⟨hb, .inl ⟨marksAt_empty HM.out hlt (fun _ => HC2.out), rfl⟩⟩
          · have hbb : ((k : Int) == b) = false := beq_eq_false_iff_ne.2 (by omega)
            have HM2 := Lib.hid (marksAt_cut HM.out hgo HC2.out hkb)
            have hownr := HOWN.out
            have hz : w.heap.size ≤ wr.heap.size := hb.size
            have hml : ms.length ≤ 1000000001 := by have := HM.out.2.2.2.1; omega
            go_wp2_with (at_builtin; refine wpList_append_own _ rfl _ _ 80 rfl w.heap.size 85 i0 (.agg #[.int .i64 0, .int .i64 0]) 2 16 Tryz.underlying80 hi hz0 hz1 hz2 rfl (by decide) _ _ _ rfl (hownr.alloc _) ⟨wr.heap.size, 0, none⟩ 1 1 (mkCells (b, k)) rfl rfl ?c1 ?c2 ?c3 ?c4 ?c5 ?_)
            case c1 => exact cell_two_new' _ _ _ _
            case c2 => simp [mkCells, Value.oneCell']
            case c3 => unfold maxLen; omega
            case c4 => omega
            case c5 => simp; omega
            intro v' w4 hown4 hgrow _
            have HB4 := Lib.hid ((hb.alloc hz _).grown hgrow (by simp; omega) (fun q hq => (hownr.lt q hq).1))
            have HOWN4 := Lib.hid hown4
            clear hown4 hgrow hownr hz hb
            go_wp2
            go_roundw
            case rel => exact ⟨k + 1, k + 1, ms ++ [(b, k)], by go_num, by go_num, HM2, by simpa using HOWN4.out, HB4.out⟩
            case measure => simp [intOf]; omega
        · have hc1 : ((s[k].toNat : Int) == 32) = false := beq_eq_false_iff_ne.2 (fun e => h32 (UInt8.toNat_inj.1 (by show s[k].toNat = 32; omega)))
          have hc2 : ((s[k].toNat : Int) != 32) = true := by rw [bne, hc1]; rfl
          have HM2 := Lib.hid (marksAt_go HM.out hgo HC.out h32)
          clear h32
          go_wp2
          go_roundw
          case rel => exact ⟨k + 1, b, ms, by go_num, rfl, HM2, HOWN.out, hb⟩
          case measure => simp [intOf]; omega
      · obtain rfl : k = t := by omega
        by_cases hkb : k = b
        · subst hkb
          go_wp2
          go_ret
          exact ⟨hb, .inl ⟨marksAt_empty HM.out hlt (fun h => absurd h hgo), rfl⟩⟩
        · have hbb : ((k : Int) == b) = false := beq_eq_false_iff_ne.2 (by omega)
          have HM2 := Lib.hid (marksAt_end HM.out hkb)
          have hownr := HOWN.out
          have hz : w.heap.size ≤ wr.heap.size := hb.size
          have hml : ms.length ≤ 1000000001 := by have := HM.out.2.2.2.1; omega
          go_wp2_with (at_builtin; refine wpList_append_own _ rfl _ _ 80 rfl w.heap.size 85 i0 (.agg #[.int .i64 0, .int .i64 0]) 2 16 Tryz.underlying80 hi hz0 hz1 hz2 rfl (by decide) _ _ _ rfl (hownr.alloc _) ⟨wr.heap.size, 0, none⟩ 1 1 (mkCells (b, k)) rfl rfl ?c1 ?c2 ?c3 ?c4 ?c5 ?_)
          case c1 => exact cell_two_new' _ _ _ _
          case c2 => simp [mkCells, Value.oneCell']
          case c3 => unfold maxLen; omega
          case c4 => omega
          case c5 => simp; omega
          intro v' w4 hown4 hgrow _
          have HB4 := Lib.hid ((hb.alloc hz _).grown hgrow (by simp; omega) (fun q hq => (hownr.lt q hq).1))
          have HOWN4 := Lib.hid hown4
          clear hown4 hgrow hownr hz hb
          go_wp2
          go_roundw
          case rel => exact ⟨k + 1, k + 1, ms ++ [(b, k)], by go_num, by go_num, HM2, by simpa using HOWN4.out, HB4.out⟩
          case measure => simp [intOf]
    · go_wp2
      go_ret
      refine ⟨hb, .inr ⟨_, ms, rfl, HOWN.out, HM.out.2.2.2.2.2.2.1 (by omega), HM.out.2.2.2.2.1, ?_, HM.out.2.2.2.2.2.2.2.2.2⟩⟩
      have h9 := HM.out.2.2.2.2.2.2.2.1
      rwa [HM.out.2.2.2.2.2.2.2.2.1 (by omega)] at h9
end Go.Proofs.YtjamdppihpeijaaGreatDoor
