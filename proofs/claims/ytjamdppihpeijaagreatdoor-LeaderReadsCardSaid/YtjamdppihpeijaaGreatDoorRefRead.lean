/- The reference's 'read' over whatever content: it reads as the plain 'readTop' does, if 'add' adds as the plain function does. -/
import Derived.Test.YtjamdppihpeijaaGreatDoorRefNums
import Derived.Test.YtjamdppihpeijaaGreatDoorSpec
import Derived.Test.YtjamdppihpeijaaGreatDoorOnly
namespace Go.Proofs.YtjamdppihpeijaaGreatDoor
open Go.RowKit

/-- What is asked of 'add': with a content in the state st it adds a line as the plain function does, and turns nothing below base. -/
def AddOk {σ : Type} (add : σ → List (List UInt8) → Option σ) (St : σ → World → Prop) (base B : Nat) : Prop :=
  ∀ (s : ByteArray) (a : Option Addr) (c : Nat) (ms : List (Nat × Nat)) (st : σ) (w : World), St st w → RdM w a ms → ms ≠ [] → (∀ m ∈ ms, m.1 ≤ m.2 ∧ m.2 ≤ s.size) → s.size ≤ 1000000000 → ms.length ≤ 1000000001 →
    Calls Tryz.prog 34 #[.pointer (some ⟨B, 0, none⟩), .string s, .slice a ms.length c] w fun e w' => Below base w w' ∧
      match add st (ms.map (sub s.data.toList)) with
      | none => e = .returned (.bool false)
      | some st' => e = .returned (.bool true) ∧ St st' w'
def ReadPost {σ : Type} (add : σ → List (List UInt8) → Option σ) (St : σ → World → Prop) (base : Nat) (l : List UInt8) (st : σ) (w : World) (e : Ending) (w' : World) : Prop :=
  Below base w w' ∧ match readTop add l st with
    | .error (n, c) => e = .returned (.tuple #[.int .i64 n, .int .i64 c])
    | .ok st' => e = .returned (.tuple #[.int .i64 0, .int .i64 0]) ∧ St st' w'
section
variable {σ : Type} {add : σ → List (List UInt8) → Option σ} {St : σ → World → Prop} {base : Nat} {l : List UInt8} {st : σ} {w w' : World} {e : Ending}
theorem readPost_err {n : Nat} {c : Int} (hb : Below base w w') (h : readTop add l st = .error (n, c)) (he : e = .returned (.tuple #[.int .i64 n, .int .i64 c])) : ReadPost add St base l st w e w' := by
  refine ⟨hb, ?_⟩; rw [h]; exact he
theorem readPost_ok {st' : σ} (hb : Below base w w') (h : readTop add l st = .ok st') (he : e = .returned (.tuple #[.int .i64 0, .int .i64 0])) (hs : St st' w') : ReadPost add St base l st w e w' := by
  refine ⟨hb, ?_⟩; rw [h]; exact ⟨he, hs⟩
end

theorem no_nl_succ (l : List UInt8) (k t : Nat) (c : UInt8) (hkt : k ≤ t) (hc : l[t]? = some c) (h : (10 : UInt8) ∉ sub l (k, t)) (h10 : c ≠ 10) : (10 : UInt8) ∉ sub l (k, t + 1) := by
  rw [sub_succ l k t c hkt hc]; simp only [List.mem_append, List.mem_singleton]; rintro (h1 | h1)
  · exact h h1
  · exact h10 h1.symm
theorem drop_line (l : List UInt8) (k t : Nat) (hkt : k ≤ t) (hc : l[t]? = some 10) : l.drop k = sub l (k, t) ++ 10 :: l.drop (t + 1) := by
  unfold sub
  have h1 : l.drop k = (l.drop k).take (t - k) ++ (l.drop k).drop (t - k) := by rw [List.take_append_drop]
  rw [h1, List.drop_drop, show k + (t - k) = t by omega]
  simp only
  congr 1
  · rw [List.take_append_of_le_length (by simp [List.length_take]; have := (List.getElem?_eq_some_iff.1 hc).1; omega)]; simp [List.take_take]
  · obtain ⟨hlt, e⟩ := List.getElem?_eq_some_iff.1 hc
    rw [List.drop_eq_getElem_cons hlt, e]

theorem marks_len {l : List UInt8} {f t : Nat} {ms : List (Nat × Nat)} (h : MarksGood l f t ms) {n : Nat} (ht : t ≤ n) : ms.length ≤ n + 1 := by
  have h1 : ∀ j p, ms[j]? = some p → j + 1 ≤ p.2 := by
    intro j
    induction j with
    | zero => intro p hp; have := h.2.1 p (List.mem_of_getElem? hp); omega
    | succ j ih =>
      intro p hp
      have hlt := (List.getElem?_eq_some_iff.1 hp).1
      obtain ⟨p0, hp0⟩ : ∃ p0, ms[j]? = some p0 := ⟨ms[j]'(by omega), by rw [List.getElem?_eq_getElem]⟩
      have h2 := ih p0 hp0
      have h3 := h.2.2.1.1 j p0 p hp0 hp
      have h4 := h.2.1 p (List.mem_of_getElem? hp)
      omega
  by_cases h0 : ms.length = 0
  · omega
  · have h2 := h1 (ms.length - 1) (ms[ms.length - 1]'(by omega)) (by rw [List.getElem?_eq_getElem])
    have h3 := h.2.1 _ (List.getElem_mem (show ms.length - 1 < ms.length by omega))
    omega

theorem map_get {l : List UInt8} {ms : List (Nat × Nat)} {k : Nat} {p : Nat × Nat} (h : ms[k]? = some p) : (ms.map (sub l))[k]? = some (sub l p) := by rw [List.getElem?_map, h]; rfl
theorem sub_len (l : List UInt8) (m : Nat × Nat) (h : m.2 ≤ l.length) : (sub l m).length = m.2 - m.1 := by unfold sub; simp; omega
section
variable {l : List UInt8} {k t m j f : Nat} {ms : List (Nat × Nat)} {q p m0 : Nat × Nat}
theorem readL_nil {σ : Type} (add : σ → List (List UInt8) → Option σ) (st : σ) (sum : Int) (hf : 0 < f) : readL add f sum [] m st = .error (m, 103) := by
  obtain ⟨f', rfl⟩ : ∃ f', f = f' + 1 := ⟨f - 1, by omega⟩
  rw [readL]; rfl
theorem last_word (hg : MarksGood l k t ms) (hj : ms.length = j + 2) (hq : ms[j + 1]? = some q) : (splitC 32 (sub l (k, t))).getLastD [] = sub l q := by
  rw [← hg.1, List.getLastD_eq_getLast?, List.getLast?_eq_getElem?, List.length_map, hj, show j + 2 - 1 = j + 1 by omega, map_get hq]; rfl
theorem no_empty (hg : MarksGood l k t ms) (ht : t ≤ l.length) (hj : ms.length = j + 2) : ¬ ([] ∈ splitC 32 (sub l (k, t)) ∨ (splitC 32 (sub l (k, t))).length < 2) := by
  rw [← hg.1]
  rintro (h | h)
  · obtain ⟨x, hx, he⟩ := List.mem_map.1 h
    have h1 := hg.2.1 x hx
    have h2 := sub_len l x (by omega)
    rw [he] at h2; simp at h2; omega
  · rw [List.length_map] at h; omega
theorem readL_bad {σ : Type} (add : σ → List (List UInt8) → Option σ) (st : σ) (sum : Int) (hf : l.length - k < f) (hc : cutNL (l.drop k) = some (sub l (k, t), l.drop (t + 1))) (ht : t ≤ l.length) (hg : MarksGood l k t ms) (hj : ms.length = j + 2)
    (hq : ms[j + 1]? = some q) (hn : num (sub l q) = none) : readL add f sum (l.drop k) m st = .error (m, 103) := by
  obtain ⟨f', rfl⟩ : ∃ f', f = f' + 1 := ⟨f - 1, by omega⟩
  rw [readL, hc]; simp only
  rw [if_neg (no_empty hg ht hj), last_word hg hj hq, hn]
theorem body_of (ht : t ≤ l.length) (hk : k ≤ t) (hg : MarksGood l k t ms) (hj : ms.length = j + 2) (hq : ms[j + 1]? = some q) (hp : ms[j]? = some p) :
    sumL (sumL 23 (l.take k)) (bodyOf (sub l (k, t)) (splitC 32 (sub l (k, t)))) = sumL 23 (l.take p.2) := by
  have h1 := hg.2.2.1.1 j p q hp hq
  have h2 : t + 1 = q.2 + 1 := hg.2.2.1.2 q (by rw [List.getLast?_eq_getElem?, hj]; exact hq)
  have h3 := hg.2.1 q (List.mem_of_getElem? hq)
  have h4 := hg.2.1 p (List.mem_of_getElem? hp)
  have h5 := hg.2.2.2 p (List.mem_of_getElem? hp)
  rw [bodyOf, last_word hg hj hq, ← sumL_append, sub_len _ _ (by omega), sub_len _ _ (by omega)]
  congr 1
  have h6 : (sub l (k, t)).take (t - k - (q.2 - q.1) - 1) = sub l (k, p.2) := by unfold sub; rw [List.take_take]; congr 1; omega
  rw [h6]
  unfold sub
  rw [← List.take_add]; congr 1; omega
theorem readL_step {σ : Type} (add : σ → List (List UInt8) → Option σ) (st : σ) (hf : l.length - k < f) (hc : cutNL (l.drop k) = some (sub l (k, t), l.drop (t + 1))) (ht : t < l.length) (hk : k ≤ t) (h10 : l[t]? = some 10) (hg : MarksGood l k t ms) (hj : ms.length = j + 2)
    (hq : ms[j + 1]? = some q) (hp : ms[j]? = some p) (h0 : ms[0]? = some m0) {chk : Int} (hn : num (sub l q) = some chk) :
    readL add f (sumL 23 (l.take k)) (l.drop k) m st =
      if sub l m0 = [69] then (match nums (((ms.take (j + 1)).map (sub l)).drop 1) with
        | some [x] => if l.drop (t + 1) ≠ [] then .error (m, 103) else if chk = sumL 23 (l.take p.2) ∧ x = (m : Int) - 1 then .ok st else .error (m, 104)
        | _ => .error (m, 103))
      else match add st ((ms.take (j + 1)).map (sub l)) with
        | none => .error (m, 103)
        | some st' => if chk = sumL 23 (l.take p.2) then readL add (f - 1) (sumL 23 (l.take (t + 1))) (l.drop (t + 1)) (m + 1) st' else .error (m, 104) := by
  obtain ⟨f', rfl⟩ : ∃ f', f = f' + 1 := ⟨f - 1, by omega⟩
  rw [readL, hc]; simp only
  rw [if_neg (no_empty hg (by omega) hj), last_word hg hj hq, hn]; simp only
  rw [body_of (by omega) hk hg hj hq hp]
  have hw : (splitC 32 (sub l (k, t))).dropLast = (ms.take (j + 1)).map (sub l) := by rw [← hg.1, List.dropLast_eq_take, List.length_map, hj, ← List.map_take]; rfl
  have hh : (splitC 32 (sub l (k, t))).head? = some (sub l m0) := by rw [← hg.1, List.head?_eq_getElem?, map_get h0]
  rw [hw, hh, ← sumL_append]
  have hs : l.take k ++ (sub l (k, t) ++ [10]) = l.take (t + 1) := by
    rw [← sub_succ l k t 10 hk h10]; unfold sub; rw [← List.take_add]; congr 1; omega
  rw [hs, List.drop_one]
  simp only [Option.some.injEq, Nat.add_sub_cancel]
  rfl
end
theorem RdM.take {w : World} {a : Option Addr} {ms : List (Nat × Nat)} (h : RdM w a ms) (n : Nat) : RdM w a (ms.take n) := by
  rcases h with rfl | ⟨b, o, rfl, hl, hc⟩
  · exact .inl (by simp)
  · exact .inr ⟨b, o, rfl, hl, fun j m hj => hc j m (by
      rw [List.getElem?_take] at hj; split at hj
      · exact hj
      · cases hj)⟩
set_option maxRecDepth 100000 in
set_option maxHeartbeats 1000000 in
theorem rread_any {σ : Type} (add : σ → List (List UInt8) → Option σ) (St : σ → World → Prop) (base B : Nat) (hadd : AddOk add St base B) (hst : ∀ st w w', St st w → Below w.heap.size w w' → base ≤ w.heap.size → St st w') (s : ByteArray) (st0 : σ) (w : World) (h0 : St st0 w) (hbase : base ≤ w.heap.size) (hs : s.size ≤ 1000000000) :
    Calls Tryz.prog 15 #[.pointer (some ⟨B, 0, none⟩), .string s] w (ReadPost add St base s.data.toList st0 w) := by
  have HADD := Lib.hid hadd
  have HST := Lib.hid hst
  have HS0 := Lib.hid h0
  clear hadd hst h0
  by_cases hbig : 30000 < s.size
  · have HR := Lib.hid (show readTop add s.data.toList st0 = .error (0, 9) by unfold readTop; rw [if_pos (by simpa using hbig)])
    go_enter Tryz.func15, Tryz.ntmps15
    go_wp2
    go_ret2
    exact readPost_err (n := 0) (Below.refl _ _) HR.out rfl
  · obtain ⟨RES, hRES⟩ : ∃ r, r = readTop add s.data.toList st0 := ⟨_, rfl⟩
    have hRES2 : readL add (s.data.toList.length + 1) 23 s.data.toList 1 st0 = RES := by rw [hRES]; unfold readTop; rw [if_neg (by simpa using hbig)]
    have HRES := Lib.hid hRES
    have HRES2 := Lib.hid hRES2
    clear hRES hRES2
    have hsz : s.size ≤ 30000 := by omega
    go_enter Tryz.func15, Tryz.ntmps15
    go_wp2
    go_loopw [6, 7] (fun fr n wr => ∃ (k m f : Nat) (st : σ), fr = .int .i64 k ∧ n = .int .i64 m ∧ k ≤ s.size ∧ 1 ≤ m ∧ m ≤ k + 1 ∧ Hid (k = s.size → m = 1) ∧ Hid (St st wr) ∧ Below base w wr ∧ Hid (s.size - k < f ∧ readL add f (sumL 23 (s.data.toList.take k)) (s.data.toList.drop k) m st = RES)) (fun fr _ _ => s.size - (intOf fr).toNat)
    case atStart =>
      exact ⟨0, 1, s.data.toList.length + 1, st0, rfl, rfl, Nat.zero_le _, Nat.le_refl _, by omega, Lib.hid (fun _ => rfl), HS0, Below.refl _ _, Lib.hid ⟨by rw [Array.length_toList]; show s.size - 0 < s.size + 1; omega, by simpa [sumL] using HRES2.out⟩⟩
    case round =>
      obtain ⟨k, m, f, st, rfl, rfl, hk, hm1, hmk, HK, HST1, hb, HF⟩ := hrel
      by_cases hlt : k < s.size
      · go_wp2_with fail
        obtain ⟨wo, rfl⟩ : ∃ wo : World, wo = wr := ⟨_, rfl⟩
        go_loop [8] (fun u => ∃ t : Nat, u = .int .i64 t ∧ k ≤ t ∧ t ≤ s.size ∧ Hid ((10 : UInt8) ∉ sub s.data.toList (k, t))) (fun u => s.size - (intOf u).toNat)
        case atStart => exact ⟨k, rfl, Nat.le_refl _, hk, Lib.hid (by rw [sub_self]; simp)⟩
        case round =>
          obtain ⟨t, rfl, hkt, hts, HNL⟩ := hrel
          by_cases htl : t < s.size
          · have HC : Hid (s.data.toList[t]? = some s[t]) := Lib.hid (by rw [List.getElem?_eq_getElem (by simpa using htl)]; rfl)
            by_cases h10 : s[t] = 10
            · have hc1 : ((s[t].toNat : Int) == 10) = true := by rw [h10]; rfl
              have hc2 : ((s[t].toNat : Int) != 10) = false := by rw [h10]; rfl
              have HC10 : Hid (s.data.toList[t]? = some 10) := Lib.hid (HC.out.trans (by rw [h10]))
              clear h10
              have hne : ((t : Int) == s.size) = false := beq_eq_false_iff_ne.2 (by omega)
              go_wp2_with fail
              refine (marks_any s k t _ hkt hts hs).mono ?_
              rintro e w1 ⟨hb1, hp⟩
              have HLINE : Hid (cutNL (s.data.toList.drop k) = some (sub s.data.toList (k, t), s.data.toList.drop (t + 1))) := Lib.hid (by rw [drop_line _ k t hkt HC10.out, cutNL_some _ _ HNL.out])
              have HB1 : Hid (Below base w w1) := Lib.hid (hb.trans (hb1.mono (Nat.le_trans hbase hb.size)))
              have HST2 := Lib.hid (HST.out _ _ _ HST1.out hb1 (Nat.le_trans hbase hb.size))
              clear hb1
              rcases hp with ⟨hnil, rfl⟩ | ⟨v, ms, rfl, hown, hgood⟩
              · have HERR : Hid (RES = .error (m, 103)) := Lib.hid (by
                  rw [← HF.out.2]; obtain ⟨f', rfl⟩ : ∃ f', f = f' + 1 := ⟨f - 1, by have := HF.out.1; omega⟩
                  rw [readL, HLINE.out]; simp only; rw [if_pos (.inl hnil)])
                clear hnil
                go_wp2
                go_ret2
                exact readPost_err HB1.out (HRES.out ▸ HERR.out) rfl
              · obtain ⟨av, cv, rfl, _, hcap, hrd, _⟩ := RdM.of_owns hown
                have HRD := Lib.hid hrd
                have HG := Lib.hid hgood
                clear hown hrd hgood
                by_cases h2 : ms.length < 2
                · have HERR : Hid (RES = .error (m, 103)) := Lib.hid (by
                    rw [← HF.out.2]; obtain ⟨f', rfl⟩ : ∃ f', f = f' + 1 := ⟨f - 1, by have := HF.out.1; omega⟩
                    rw [readL, HLINE.out]; simp only; rw [if_pos (.inr (by rw [← HG.out.1, List.length_map]; exact h2))])
                  have h2' : (ms.length : Int) < 2 := by omega
                  go_wp2
                  go_ret2
                  exact readPost_err HB1.out (HRES.out ▸ HERR.out) rfl
                · obtain ⟨j, hj⟩ : ∃ j, ms.length = j + 2 := ⟨ms.length - 2, by omega⟩
                  obtain ⟨p, hp⟩ : ∃ p, ms[j]? = some p := ⟨ms[j]'(by omega), by rw [List.getElem?_eq_getElem]⟩
                  obtain ⟨q, hq⟩ : ∃ q, ms[j + 1]? = some q := ⟨ms[j + 1]'(by omega), by rw [List.getElem?_eq_getElem]⟩
                  obtain ⟨m0, hm0⟩ : ∃ m, ms[0]? = some m := ⟨ms[0]'(by omega), by rw [List.getElem?_eq_getElem]⟩
                  have hq1 : q.1 = p.2 + 1 := HG.out.2.2.1.1 j p q hp hq
                  have hq2 : t + 1 = q.2 + 1 := HG.out.2.2.1.2 q (by rw [List.getLast?_eq_getElem?, hj]; exact hq)
                  have hpb := HG.out.2.1 p (List.mem_of_getElem? hp)
                  have hqb := HG.out.2.1 q (List.mem_of_getElem? hq)
                  have hmb := HG.out.2.1 m0 (List.mem_of_getElem? hm0)
                  have hpk := HG.out.2.2.2 p (List.mem_of_getElem? hp)
                  obtain ⟨b, o, rfl, hbl, hc⟩ := HRD.out.resolve_left (by intro e; rw [e] at hj; simp at hj)
                  have r0 : w1.cell? ⟨b, o + (j + 1) * 2, none⟩ = some (.int .i64 q.1) := (hc (j + 1) q hq).1
                  have r1 : w1.cell? ⟨b, o + (j + 1) * 2 + 1, none⟩ = some (.int .i64 q.2) := (hc (j + 1) q hq).2
                  have r2 : w1.cell? ⟨b, o + j * 2 + 1, none⟩ = some (.int .i64 p.2) := (hc j p hp).2
                  have r3 : w1.cell? ⟨b, o, none⟩ = some (.int .i64 m0.1) := (hc 0 m0 hm0).1
                  have r4 : w1.cell? ⟨b, o + 1, none⟩ = some (.int .i64 m0.2) := (hc 0 m0 hm0).2
                  have HC := Lib.hid hc
                  have HJ := Lib.hid hj
                  have HP := Lib.hid hp
                  have HQ := Lib.hid hq
                  have HM0 := Lib.hid hm0
                  have HQ1 := Lib.hid hq1
                  have HQ2 := Lib.hid hq2
                  obtain ⟨hpb1, hpb2⟩ := hpb
                  obtain ⟨hqb1, hqb2⟩ := hqb
                  obtain ⟨hmb1, hmb2⟩ := hmb
                  rw [hj]
                  rw [hj] at hcap
                  have cp1 : (j : Int) + 2 - 1 ≤ cv := by omega
                  have cp2 : (j : Int) + 1 ≤ cv := by omega
                  have hsz1 : (s.extract q.1 q.2).size ≤ 1000000000 := by rw [ByteArray.size_extract]; omega
                  obtain ⟨u, hu⟩ : ∃ u, u = sub s.data.toList q := ⟨_, rfl⟩
                  have hval : ∀ W : World, Calls Tryz.prog 31 #[.string (s.extract q.1 q.2)] W fun e W' => e = .returned (.tuple #[.int .i64 (valN u), .bool (num u).isSome]) ∧ W' = W := fun W =>
                    (value_any (s.extract q.1 q.2) W hsz1).mono fun e W' h => by rw [bytes_extract, ← hu] at h; exact ⟨h.1, h.2.symm⟩
                  have HVAL := Lib.hid hval
                  have HU := Lib.hid hu
                  have hqs : q.2 ≤ s.size := by omega
                  have hqs' : (q.1 : Int) ≤ q.2 := by omega
                  have hjb : j ≤ 1000000 := by have := HG.out.2.1; have h5 := marks_len HG.out hts; omega
                  have wr1 : IntKind.i64.wrap ((j : Int) + 2 - 1) = (j : Int) + 1 := by rw [IntWalk.i64_in _ (by omega)]; omega
                  have wr2 : IntKind.i64.wrap ((j : Int) + 2 - 2) = (j : Int) := by rw [IntWalk.i64_in _ (by omega)]; omega
                  have p1 : (0 : Int) ≤ (j : Int) + 1 := by omega
                  have p2 : ((j : Int) + 1).toNat = j + 1 := by omega
                  have p3 : (j : Int) + 1 < (j : Int) + 2 := by omega
                  clear hc hj hp hq hm0 hq1 hq2 hsz1 hval hu h2
                  go_wp2_with fail
                  go_quiet ((go_at_call 31; exact Calls.quiet_of_same (HVAL.out _)))
                  obtain ⟨w2, hw2⟩ : ∃ W, W = w1.drewN nq := ⟨_, rfl⟩
                  have r2 : w2.cell? ⟨b, o + j * 2 + 1, none⟩ = some (.int .i64 p.2) := by rw [hw2]; exact r2
                  have r3 : w2.cell? ⟨b, o, none⟩ = some (.int .i64 m0.1) := by rw [hw2]; exact r3
                  have r4 : w2.cell? ⟨b, o + 1, none⟩ = some (.int .i64 m0.2) := by rw [hw2]; exact r4
                  have HST3 : Hid (St st w2) := Lib.hid (by rw [hw2]; exact HST.out _ _ _ HST2.out (below_drewN _ _ _) (Nat.le_trans hbase HB1.out.size))
                  have HB2 : Hid (Below base w w2) := Lib.hid (by rw [hw2]; exact HB1.out.trans (below_drewN _ _ _))
                  have HRD2 : Hid (RdM w2 (some ⟨b, o, none⟩) ms) := Lib.hid (by rw [hw2]; exact HRD.out.step (below_drewN _ _ _))
                  rw [← hw2]
                  clear hw2 r0 r1 wr1 p1 p2 p3 HST2 HB1 HRD HC hb hbl
                  cases hn : num u with
                  | none =>
                    simp only [Option.isSome_none]
                    have HERR : Hid (RES = .error (m, 103)) := Lib.hid (by
                      rw [← HF.out.2]; exact readL_bad add st _ (by simpa using HF.out.1) HLINE.out (by simpa using hts) HG.out HJ.out HQ.out (by rw [← HU.out]; exact hn))
                    clear hn
                    go_wp2
                    go_ret2
                    exact readPost_err HB2.out (HRES.out ▸ HERR.out) rfl
                  | some chk =>
                    rw [valN_num hn]; simp only [Option.isSome_some]
                    have HSTEP := Lib.hid ((readL_step add st (by simpa using HF.out.1) HLINE.out (by simpa using htl) hkt HC10.out HG.out HJ.out HQ.out HP.out HM0.out (by rw [← HU.out]; exact hn)).symm.trans HF.out.2)
                    obtain ⟨S, hS⟩ : ∃ S, S = sumL 23 (s.data.toList.take p.2) := ⟨_, rfl⟩
                    rw [← hS] at HSTEP
                    have HSUM : Hid (∀ W : World, Calls Tryz.prog 32 #[.string (s.extract 0 p.2)] W fun e w' => e = .returned (.int .i64 S) ∧ W = w') := Lib.hid (fun W => (sum_any (s.extract 0 p.2) W (by rw [ByteArray.size_extract]; omega)).mono fun e w' h => by
                      rw [show (s.extract 0 p.2).data.toList = s.data.toList.take p.2 by simp [ByteArray.data_extract, List.extract_eq_take_drop], ← hS] at h; exact h)
                    have hlt1 : (ms.take (j + 1)).length = j + 1 := by rw [List.length_take, HJ.out]; omega
                    have hmt : ∀ m ∈ ms.take (j + 1), m.1 ≤ m.2 ∧ m.2 ≤ s.size := fun m hm => by have := HG.out.2.1 m (List.mem_of_mem_take hm); omega
                    have HNB : Hid (∀ W : World, RdM W (some ⟨b, o, none⟩) ms → Calls Tryz.prog 33 #[.string s, .slice (some ⟨b, o, none⟩) (j + 1) cv, .int .i64 1] W (NumsPost W (((ms.take (j + 1)).map (sub s.data.toList)).drop 1))) := Lib.hid (fun W hW => by
                      have h := rnumbers_any s (some ⟨b, o, none⟩) cv (ms.take (j + 1)) 1 W (hW.take _) (by rw [hlt1]; omega) hmt hs (by rw [hlt1]; omega)
                      rw [hlt1] at h; exact h)
                    have HAD : Hid (∀ W : World, St st W → RdM W (some ⟨b, o, none⟩) ms → Calls Tryz.prog 34 #[.pointer (some ⟨B, 0, none⟩), .string s, .slice (some ⟨b, o, none⟩) (j + 1) cv] W fun e w' => Below base W w' ∧
                        match add st ((ms.take (j + 1)).map (sub s.data.toList)) with
                        | none => e = .returned (.bool false)
                        | some st' => e = .returned (.bool true) ∧ St st' w') := Lib.hid (fun W hS hW => by
                      have h := HADD.out s (some ⟨b, o, none⟩) cv (ms.take (j + 1)) st W hS (hW.take _) (by intro e; rw [e] at hlt1; simp at hlt1) hmt hs (by rw [hlt1]; omega)
                      rw [hlt1] at h; exact h)
                    clear hS hn hlt1 hmt
                    go_wp2_with fail
                    refine (HSUM.out _).mono ?_
                    rintro e w3 ⟨rfl, rfl⟩
                    go_wp2_with fail
                    go_quiet (fail)
                    go_wp2_with fail
                    · have h69b : ((s.extract m0.1 m0.2).toList == [69]) = true := by assumption
                      have h69 : sub s.data.toList m0 = [69] := by
                        rw [← bytes_extract, ← toList_data]; exact eq_of_beq h69b
                      have HS2 := HSTEP.out
                      rw [if_pos h69] at HS2
                      have HSTEP2 := Lib.hid HS2
                      have HB3 : Hid (Below base w (w2.drewN nq)) := Lib.hid (HB2.out.trans (below_drewN _ _ _))
                      clear HS2 h69 h69b HSTEP
                      refine (HNB.out _ (HRD2.out.step (below_drewN _ _ _))).mono ?_
                      rintro e w4 ⟨hb4, hp4⟩
                      have HB4 : Hid (Below base w w4) := Lib.hid (HB3.out.trans (hb4.mono (Nat.le_trans hbase HB3.out.size)))
                      have HST4 : Hid (St st w4) := Lib.hid (HST.out _ _ _ (HST.out _ _ _ HST3.out (below_drewN _ _ _) (Nat.le_trans hbase HB2.out.size)) hb4 (Nat.le_trans hbase HB3.out.size))
                      clear hb4
                      cases hx : nums (((ms.take (j + 1)).map (sub s.data.toList)).drop 1) with
                      | none =>
                        rw [hx] at hp4 HSTEP2
                        simp only at hp4; subst hp4
                        have HERR : Hid (RES = .error (m, 103)) := Lib.hid HSTEP2.out.symm
                        clear hx HSTEP2
                        go_wp2
                        go_ret2
                        exact readPost_err HB4.out (HRES.out ▸ HERR.out) rfl
                      | some ns =>
                        rw [hx] at hp4 HSTEP2
                        simp only at hp4
                        obtain ⟨v, rfl, hv⟩ := hp4
                        obtain ⟨av, cv', rfl⟩ := owns_slice hv
                        clear hx
                        by_cases h1 : ns.length = 1
                        · rw [h1]
                          obtain ⟨x, rfl⟩ : ∃ x, ns = [x] := List.length_eq_one_iff.1 h1
                          obtain ⟨b4, o4, rfl, hc4⟩ : ∃ b4 o4, av = some ⟨b4, o4, none⟩ ∧ w4.cell? ⟨b4, o4, none⟩ = some (.int .i64 x) := by
                            obtain ⟨a', c', e1, _, _, e2, _⟩ := Rd.of_owns (enc := fun n : Int => Value.int .i64 n) hv
                            cases e1
                            obtain ⟨b4, o4, ea, _, hc⟩ := e2.ne (by simp)
                            exact ⟨b4, o4, ea, hc 0 x rfl⟩
                          clear hv h1
                          by_cases hmore : t + 1 < s.size
                          · have HERR : Hid (RES = .error (m, 103)) := Lib.hid (by
                              rw [← HSTEP2.out]; simp only
                              rw [if_pos (by intro e; have := congrArg List.length e; simp at this; omega)])
                            clear HSTEP2
                            go_wp2
                            go_ret2
                            exact readPost_err HB4.out (HRES.out ▸ HERR.out) rfl
                          · have HSTEP3 : Hid ((if chk = S ∧ x = (m : Int) - 1 then Except.ok st else Except.error (m, 104)) = RES) := Lib.hid (by
                              have hd : s.data.toList.drop (t + 1) = [] := List.drop_of_length_le (by simp; omega)
                              rw [← HSTEP2.out]; simp only [hd, ne_eq, not_true, if_false])
                            clear HSTEP2
                            by_cases hr : chk = S
                            · have hrb : (chk == S) = true := beq_iff_eq.2 hr
                              by_cases hxm : x = (m : Int) - 1
                              · have HOK : Hid (RES = .ok st) := Lib.hid (by rw [← HSTEP3.out, if_pos ⟨hr, hxm⟩])
                                have hxb : (x != (m : Int) - 1) = false := by simp [hxm]
                                clear HSTEP3 hxm hr
                                go_wp2
                                go_ret2
                                exact readPost_ok HB4.out (HRES.out ▸ HOK.out) rfl HST4.out
                              · have HERR : Hid (RES = .error (m, 104)) := Lib.hid (by rw [← HSTEP3.out, if_neg (fun h => hxm h.2)])
                                have hxb : (x != (m : Int) - 1) = true := by simp [hxm]
                                clear HSTEP3 hxm hr
                                go_wp2
                                go_ret2
                                exact readPost_err HB4.out (HRES.out ▸ HERR.out) rfl
                            · have HERR : Hid (RES = .error (m, 104)) := Lib.hid (by rw [← HSTEP3.out, if_neg (fun h => hr h.1)])
                              have hrb : (chk == S) = false := beq_eq_false_iff_ne.2 hr
                              clear HSTEP3 hr
                              go_wp2
                              go_ret2
                              exact readPost_err HB4.out (HRES.out ▸ HERR.out) rfl
                        · have hn1 : ((ns.length : Int) != 1) = true := by simp; omega
                          have HERR : Hid (RES = .error (m, 103)) := Lib.hid (by
                            rw [← HSTEP2.out]
                            match ns, h1 with
                            | [], _ => rfl
                            | [_], h => exact absurd rfl h
                            | _ :: _ :: _, _ => rfl)
                          clear HSTEP2 hv h1
                          go_wp2
                          go_ret2
                          exact readPost_err HB4.out (HRES.out ▸ HERR.out) rfl
                    · have h69b : ((s.extract m0.1 m0.2).toList == [69]) = false := by assumption
                      have h69 : ¬ sub s.data.toList m0 = [69] := by
                        rw [← bytes_extract, ← toList_data]; exact ne_of_beq_false h69b
                      have HS2 := HSTEP.out
                      rw [if_neg h69] at HS2
                      have HSTEP2 := Lib.hid HS2
                      have HB3 : Hid (Below base w (w2.drewN nq)) := Lib.hid (HB2.out.trans (below_drewN _ _ _))
                      clear HS2 h69 h69b HSTEP
                      refine (HAD.out _ (HST.out _ _ _ HST3.out (below_drewN _ _ _) (Nat.le_trans hbase HB2.out.size)) (HRD2.out.step (below_drewN _ _ _))).mono ?_
                      rintro e w4 ⟨hb4, hp4⟩
                      have HB4 : Hid (Below base w w4) := Lib.hid (HB3.out.trans hb4)
                      clear hb4
                      cases hA : add st ((ms.take (j + 1)).map (sub s.data.toList)) with
                      | none =>
                        rw [hA] at hp4 HSTEP2
                        simp only at hp4; subst hp4
                        have HERR : Hid (RES = .error (m, 103)) := Lib.hid HSTEP2.out.symm
                        clear hA HSTEP2
                        go_wp2
                        go_ret2
                        exact readPost_err HB4.out (HRES.out ▸ HERR.out) rfl
                      | some st' =>
                        rw [hA] at hp4 HSTEP2
                        simp only at hp4
                        obtain ⟨rfl, hs4⟩ := hp4
                        have HST4 := Lib.hid hs4
                        clear hA hs4
                        by_cases hr : chk = S
                        · have hrb : (chk == S) = true := beq_iff_eq.2 hr
                          have HSTEP3 : Hid (readL add (f - 1) (sumL 23 (s.data.toList.take (t + 1))) (s.data.toList.drop (t + 1)) (m + 1) st' = RES) := Lib.hid (by
                            rw [← HSTEP2.out]; simp only; rw [if_pos hr])
                          clear HSTEP2 hr
                          by_cases hend : t + 1 = s.size
                          · have hendb : (((t : Int) + 1) == (s.size : Int)) = true := by simp; omega
                            have HERR : Hid (RES = .error (m + 1, 103)) := Lib.hid (by
                              rw [← HSTEP3.out, List.drop_of_length_le (by simp; omega), readL_nil _ _ _ (by have := HF.out.1; omega)])
                            clear hend
                            go_wp2
                            go_ret2
                            exact readPost_err HB4.out (HRES.out ▸ HERR.out) (by simp)
                          · have hendb : (((t : Int) + 1) == (s.size : Int)) = false := by simp; omega
                            have HK2 : Hid (t + 1 = s.size → m + 1 = 1) := Lib.hid (fun e => absurd e hend)
                            clear hend
                            go_wp2
                            go_roundw
                            case rel => exact ⟨t + 1, m + 1, f - 1, st', by go_num, by go_num, by omega, by omega, by omega, HK2, HST4, HB4.out, Lib.hid ⟨by have := HF.out.1; omega, HSTEP3.out⟩⟩
                            case measure => simp [intOf]; omega
                        · have hrb : (chk == S) = false := beq_eq_false_iff_ne.2 hr
                          have HERR : Hid (RES = .error (m, 104)) := Lib.hid (by rw [← HSTEP2.out]; simp only; rw [if_neg hr])
                          clear HSTEP2 hr
                          go_wp2
                          go_ret2
                          exact readPost_err HB4.out (HRES.out ▸ HERR.out) rfl
            · have hc1 : ((s[t].toNat : Int) == 10) = false := beq_eq_false_iff_ne.2 (fun e => h10 (UInt8.toNat_inj.1 (by show s[t].toNat = 10; omega)))
              have hc2 : ((s[t].toNat : Int) != 10) = true := by rw [bne, hc1]; rfl
              have HN2 := Lib.hid (no_nl_succ _ k t _ hkt HC.out HNL.out h10)
              clear h10
              go_wp2
              go_round
              case rel => exact ⟨t + 1, by go_num, by omega, by omega, HN2⟩
              case measure => simp [intOf]; omega
          · obtain rfl : t = s.size := by omega
            have HERR : Hid (RES = .error (m, 103)) := Lib.hid (by
              rw [← HF.out.2]; obtain ⟨f', rfl⟩ : ∃ f', f = f' + 1 := ⟨f - 1, by have := HF.out.1; omega⟩
              rw [readL, cutNL_none _ (by have := HNL.out; unfold sub at this; rwa [List.take_of_length_le (by simp)] at this)])
            go_wp2
            go_ret2
            exact readPost_err hb (HRES.out ▸ HERR.out) rfl
      · obtain rfl : k = s.size := by omega
        have hm := HK.out rfl
        have HERR : Hid (RES = .error (1, 103)) := Lib.hid (by
          rw [← HF.out.2, hm]; obtain ⟨f', rfl⟩ : ∃ f', f = f' + 1 := ⟨f - 1, by have := HF.out.1; omega⟩
          rw [readL, List.drop_of_length_le (by simp)]; rfl)
        clear hm
        go_wp2
        go_ret2
        exact readPost_err (n := 1) hb (HRES.out ▸ HERR.out) rfl
end Go.Proofs.YtjamdppihpeijaaGreatDoor
