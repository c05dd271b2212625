/- The program's 'ReadBook$1' adds a line's words to the book as the plain 'addBook' does. -/
import Derived.Test.YtjamdppihpeijaaGreatDoorPLet
import Derived.Deep.RegionLaw
namespace Go.Proofs.YtjamdppihpeijaaGreatDoor
open Go.RowKit

structure Cb (w : World) (base B : Nat) (bk : Bk) (vr vl : Value) : Prop where
  box : w.heap[B]? = some (.cells #[vr, vl] 25 (0, 0))
  hB : base ≤ B
  rows : w.ownsRow base 48 14 vr bk.rows.length (rowCells bk.rows)
  lets : w.ownsRow base 51 8 vl bk.lets.length (letCells bk.lets)
  total : bk.rows.length + bk.lets.length ≤ 300
def TakeBookPost (base B : Nat) (bk : Bk) (vr vl : Value) (ws : List (List UInt8)) (w : World) (e : Ending) (w' : World) : Prop :=
  Only (fun k => k = B ∨ vr.ownBlock = some k ∨ vl.ownBlock = some k) w w' ∧
  match addBook bk ws with
  | none => e = .returned (.bool false) ∧ ∃ u v, w'.heap[B]? = some (.cells #[u, v] 25 (0, 0))
  | some bk' => e = .returned (.bool true) ∧ ∃ vr' vl', Cb w' base B bk' vr' vl' ∧ ∀ k, vr'.ownBlock = some k ∨ vl'.ownBlock = some k → vr.ownBlock = some k ∨ vl.ownBlock = some k ∨ w.heap.size ≤ k
section
variable {base B : Nat} {bk bk' : Bk} {vr vl vr' vl' : Value} {ws : List (List UInt8)} {w w' : World} {e : Ending}
theorem takeBook_none (ho : Only (fun k => k = B ∨ vr.ownBlock = some k ∨ vl.ownBlock = some k) w w') (hx : ∃ u v, w'.heap[B]? = some (.cells #[u, v] 25 (0, 0))) (h : addBook bk ws = none) (he : e = .returned (.bool false)) : TakeBookPost base B bk vr vl ws w e w' := by
  refine ⟨ho, ?_⟩; rw [h]; exact ⟨he, hx⟩
theorem takeBook_noneB (hct : Cb w base B bk vr vl) (hb : Below w.heap.size w w') (h : addBook bk ws = none) (he : e = .returned (.bool false)) : TakeBookPost base B bk vr vl ws w e w' :=
  takeBook_none (Only.of_below hb) ⟨_, _, (hb.block B (Array.getElem?_eq_some_iff.1 hct.box).1).trans hct.box⟩ h he
theorem takeBook_some (ho : Only (fun k => k = B ∨ vr.ownBlock = some k ∨ vl.ownBlock = some k) w w') (h : addBook bk ws = some bk') (he : e = .returned (.bool true))
    (hc : Cb w' base B bk' vr' vl') (hn : ∀ k, vr'.ownBlock = some k ∨ vl'.ownBlock = some k → vr.ownBlock = some k ∨ vl.ownBlock = some k ∨ w.heap.size ≤ k) : TakeBookPost base B bk vr vl ws w e w' := by
  refine ⟨ho, ?_⟩; rw [h]; exact ⟨he, vr', vl', hc, hn⟩
end
theorem cb_row {w w3 w4 : World} {base B n gg cap : Nat} {bk : Bk} {ar : Option Addr} {cr : Nat} {vl : Value} {ns : List Int} (hct : Cb w base B bk (.slice ar n cr) vl) (hb : Below w.heap.size w w3)
    (hown : w4.ownsRow base 48 14 (.slice (some ⟨gg, 0, none⟩) (bk.rows.length + 1) cap) (bk.rows.length + 1) (rowCells bk.rows ++ (rowVal ns).toList)) (hg : w3.grownBy w4 (Value.slice ar n cr).ownBlock)
    (hat : (Value.slice ar n cr).ownBlock = some gg ∨ w.heap.size ≤ gg) (ht : bk.rows.length + bk.lets.length ≠ 300) :
    Only (fun k => k = B ∨ (Value.slice ar n cr).ownBlock = some k ∨ vl.ownBlock = some k) w (w4.setCell ⟨B, 0, none⟩ (.slice (some ⟨gg, 0, none⟩) (bk.rows.length + 1) cap)) ∧
      Cb (w4.setCell ⟨B, 0, none⟩ (.slice (some ⟨gg, 0, none⟩) (bk.rows.length + 1) cap)) base B { bk with rows := bk.rows ++ [ns] } (.slice (some ⟨gg, 0, none⟩) (bk.rows.length + 1) cap) vl ∧
      ∀ k, (Value.slice (some ⟨gg, 0, none⟩) (bk.rows.length + 1) cap).ownBlock = some k ∨ vl.ownBlock = some k → (Value.slice ar n cr).ownBlock = some k ∨ vl.ownBlock = some k ∨ w.heap.size ≤ k := by
  have hBl := (Array.getElem?_eq_some_iff.1 hct.box).1
  have hbx : w4.heap[B]? = some (.cells #[.slice ar n cr, vl] 25 (0, 0)) := by
    rw [hg.block B (by have := hb.size; omega) (fun e => owns_box hct.rows hct.box (by decide) e.symm), hb.block B hBl]; exact hct.box
  have hl3 := owns_step hct.lets hb
  have hr3 := owns_step hct.rows hb
  have hl4 := hl3.kept hg (owns_ne hl3 hr3 (by decide))
  refine ⟨?_, ⟨?_, hct.hB, ?_, ?_, ?_⟩, ?_⟩
  · exact ((Only.of_below hb).grown hg (fun k hk => .inl (.inr (.inl hk)))).setCell (.inl (.inl rfl)) _
  · rw [box_set hbx]; rfl
  · have := owns_setCell hown (a := ⟨B, 0, none⟩) (owns_box hown hbx (by decide)) (.slice (some ⟨gg, 0, none⟩) (bk.rows.length + 1) cap)
    rw [rowCells_snoc]; simpa using this
  · exact owns_setCell hl4 (a := ⟨B, 0, none⟩) (owns_box hl4 hbx (by decide)) _
  · have := hct.total; simp; omega
  · rintro k (hk | hk)
    · obtain rfl : gg = k := by simpa [Value.ownBlock] using hk
      rcases hat with h | h
      · exact .inl h
      · exact .inr (.inr h)
    · exact .inr (.inl hk)
theorem cb_let {w w3 w4 : World} {base B n gg cap : Nat} {bk : Bk} {al : Option Addr} {cl : Nat} {vr : Value} {ns : List Int} (hct : Cb w base B bk vr (.slice al n cl)) (hb : Below w.heap.size w w3)
    (hown : w4.ownsRow base 51 8 (.slice (some ⟨gg, 0, none⟩) (bk.lets.length + 1) cap) (bk.lets.length + 1) (letCells bk.lets ++ (letVal ns).toList)) (hg : w3.grownBy w4 (Value.slice al n cl).ownBlock)
    (hat : (Value.slice al n cl).ownBlock = some gg ∨ w.heap.size ≤ gg) (ht : bk.rows.length + bk.lets.length ≠ 300) :
    Only (fun k => k = B ∨ vr.ownBlock = some k ∨ (Value.slice al n cl).ownBlock = some k) w (w4.setCell ⟨B, 1, none⟩ (.slice (some ⟨gg, 0, none⟩) (bk.lets.length + 1) cap)) ∧
      Cb (w4.setCell ⟨B, 1, none⟩ (.slice (some ⟨gg, 0, none⟩) (bk.lets.length + 1) cap)) base B { bk with lets := bk.lets ++ [ns] } vr (.slice (some ⟨gg, 0, none⟩) (bk.lets.length + 1) cap) ∧
      ∀ k, vr.ownBlock = some k ∨ (Value.slice (some ⟨gg, 0, none⟩) (bk.lets.length + 1) cap).ownBlock = some k → vr.ownBlock = some k ∨ (Value.slice al n cl).ownBlock = some k ∨ w.heap.size ≤ k := by
  have hbx := box_grown hct.box hb hg (owns_box hct.lets hct.box (by decide))
  have hl3 := owns_step hct.lets hb
  have hr3 := owns_step hct.rows hb
  have hr4 := hr3.kept hg (owns_ne hr3 hl3 (by decide))
  refine ⟨?_, ⟨?_, hct.hB, ?_, ?_, ?_⟩, ?_⟩
  · exact ((Only.of_below hb).grown hg (fun k hk => .inl (.inr (.inr hk)))).setCell (.inl (.inl rfl)) _
  · rw [box_set hbx]; rfl
  · exact owns_setCell hr4 (a := ⟨B, 1, none⟩) (owns_box hr4 hbx (by decide)) _
  · have := owns_setCell hown (a := ⟨B, 1, none⟩) (owns_box hown hbx (by decide)) (.slice (some ⟨gg, 0, none⟩) (bk.lets.length + 1) cap)
    rw [letCells_snoc]; simpa using this
  · have := hct.total; simp; omega
  · rintro k (hk | hk)
    · exact .inl hk
    · obtain rfl : gg = k := by simpa [Value.ownBlock] using hk
      rcases hat with h | h
      · exact .inr (.inl h)
      · exact .inr (.inr h)
/-- A slice's tail, as the code cuts it. -/
theorem Rd.cut {α : Type} {enc : α → Value} {w : World} {b o c k : Nat} {xs : List α} (h : ∀ j x, xs[j]? = some x → w.cell? ⟨b, o + j, none⟩ = some (enc x)) (hb : b < w.heap.size) (hc : xs.length ≤ c) :
    Rd enc w (if c = k then some ⟨b, o, none⟩ else some ⟨b, o + k, none⟩) (xs.drop k) := by
  by_cases hck : c = k
  · exact .inl (List.drop_of_length_le (by omega))
  · rw [if_neg hck]
    exact .inr ⟨b, o + k, rfl, hb, fun j x hj => by rw [List.getElem?_drop] at hj; rw [Nat.add_assoc]; exact h _ _ hj⟩
theorem prow_len (a : Option Addr) (c : Nat) (ns : List Int) (w : World) (hr : Rd (fun n : Int => Value.int .i64 n) w a ns) (hn : ns.length = 14) (hc : ns.length ≤ c) :
    Calls Tryz.prog 13 #[.slice a ns.length c] w fun e w' => e = .returned (.agg #[.int .i64 (nth ns 0), .int .i64 (nth ns 1), .int .i64 (nth ns 2), .int .i64 (nth ns 3), .int .i64 (nth ns 4), .int .i64 (nth ns 5), .int .i64 (nth ns 6), .int .i64 (nth ns 7), .int .i64 (nth ns 8), .int .i64 (nth ns 9), .int .i64 (nth ns 10), .int .i64 (nth ns 11), .int .i64 (nth ns 12), .int .i64 (nth ns 13)]) ∧ Below w.heap.size w w' := by
  have := prow_any a c ns w hr hn (by omega)
  rw [hn]; exact this
theorem pletter_len (a : Option Addr) (c : Nat) (ns : List Int) (w : World) (hr : Rd (fun n : Int => Value.int .i64 n) w a ns) (hn : ns.length = 8) :
    Calls Tryz.prog 14 #[.slice a ns.length c] w fun e w' => e = .returned (.tuple #[.agg #[.int .i64 (nth ns 0), .int .i64 (nth ns 1), .int .u8 (nth ns 2 % 256), .int .i64 (nth ns 3), .int .i64 (nth ns 4), .int .i64 (nth ns 5), .int .i64 (nth ns 6), .bool (nth ns 7 == 1)], .bool (letOk ns)]) ∧ Below w.heap.size w w' := by
  have := pletter_any a c ns w hr hn
  rw [hn]; exact this
theorem letW_ok {ns : List Int} (h : letOk ns = true) : nth ns 2 % 256 = nth ns 2 := by
  unfold letOk at h
  simp only [Bool.and_eq_true, decide_eq_true_eq] at h
  omega
set_option maxRecDepth 100000 in
theorem takeBook_one (a : Option Addr) (c : Nat) (x0 : ByteArray) (base B : Nat) (bk : Bk) (vr vl : Value) (w : World) (he : Env w) (hct : Cb w base B bk vr vl) (hr : Rd Value.string w a [x0]) :
    Calls Tryz.prog 11 #[.slice a 1 c, .pointer (some ⟨B, 0, none⟩)] w (TakeBookPost base B bk vr vl [x0.data.toList] w) := by
  obtain ⟨ar, cr, rfl⟩ := owns_slice hct.rows
  obtain ⟨al, cl, rfl⟩ := owns_slice hct.lets
  have c0 := cell_of hct.box 0
  have c1 := cell_of hct.box 1
  simp only [List.getElem?_toArray, List.getElem?_cons_zero, List.getElem?_cons_succ] at c0 c1
  obtain ⟨b, o, rfl, hbl, hc⟩ := hr.resolve_left (by simp)
  have q0 : w.cell? ⟨b, o, none⟩ = some (.string x0) := hc 0 x0 rfl
  have HNUM : Hid (∀ a' c', Calls Tryz.prog 12 #[.slice a' 0 c'] w (NumsPost w [])) := Lib.hid (fun a' c' => pnumbers_any a' c' [] w he Rd.nil (by simp) (by simp))
  have HA : Hid (addBook bk [x0.data.toList] = none) := Lib.hid (by
    unfold addBook; simp [nums])
  have htot := hct.total
  have hBl := (Array.getElem?_eq_some_iff.1 hct.box).1
  have HCT := Lib.hid hct
  clear hr hc he hct
  go_enter Tryz.func11, Tryz.ntmps11
  go_wp2_with fail
  all_goals
    refine (HNUM.out _ _).mono ?_
    rintro e w1 ⟨hb1, v, rfl, hv⟩
    obtain ⟨av, cv, rfl⟩ := owns_slice hv
    have q0 := cell_keep hb1 q0
    have c0 := cell_keep hb1 c0
    have c1 := cell_keep hb1 c1
    have HB1 := Lib.hid hb1
    clear hb1 hv
    simp only [List.length_nil]
    go_wp2
    all_goals
      go_ret
      exact takeBook_noneB HCT.out HB1.out HA.out rfl
set_option maxRecDepth 100000 in
set_option maxHeartbeats 1000000 in
theorem takeBook_any (a : Option Addr) (c : Nat) (ss : List ByteArray) (base B : Nat) (bk : Bk) (vr vl : Value) (w : World) (he : Env w) (hct : Cb w base B bk vr vl) (hr : Rd Value.string w a ss) (hne : ss ≠ []) (hcap : ss.length ≤ c) (hn : ss.length ≤ 1000000000) (hs : ∀ s ∈ ss, s.size ≤ 1000000000) :
    Calls Tryz.prog 11 #[.slice a ss.length c, .pointer (some ⟨B, 0, none⟩)] w (TakeBookPost base B bk vr vl (ss.map (·.data.toList)) w) := by
  by_cases h1 : ss.length = 1
  · obtain ⟨x0, rfl⟩ := List.length_eq_one_iff.1 h1
    exact takeBook_one a c x0 base B bk vr vl w he hct hr
  obtain ⟨ar, cr, rfl⟩ := owns_slice hct.rows
  obtain ⟨al, cl, rfl⟩ := owns_slice hct.lets
  have c0 := cell_of hct.box 0
  have c1 := cell_of hct.box 1
  simp only [List.getElem?_toArray, List.getElem?_cons_zero, List.getElem?_cons_succ] at c0 c1
  obtain ⟨b, o, rfl, hbl, hc⟩ := hr.resolve_left hne
  obtain ⟨x0, r, rfl⟩ : ∃ x0 r, ss = x0 :: r := by cases ss with | nil => exact absurd rfl hne | cons x r => exact ⟨x, r, rfl⟩
  have q0 : w.cell? ⟨b, o, none⟩ = some (.string x0) := hc 0 x0 rfl
  have hcut : Rd Value.string w (if c = 1 then some ⟨b, o, none⟩ else some ⟨b, o + 1, none⟩) r := Rd.cut (k := 1) hc hbl hcap
  obtain ⟨n, hnn⟩ : ∃ n, n = (x0 :: r).length := ⟨_, rfl⟩
  have hnr : n = r.length + 1 := by rw [hnn]; rfl
  rw [← hnn] at hcap hn ⊢
  have h1n : 1 ≤ n := by omega
  have hc1 : ¬ c = 1 := by rw [hnr] at hcap; simp at h1; intro e; subst e; exact h1 (by have : r.length = 0 := by omega
                                                                                        exact List.eq_nil_of_length_eq_zero this)
  have HNUM : Hid (Calls Tryz.prog 12 #[.slice (some ⟨b, o + 1, none⟩) r.length (c - 1)] w (NumsPost w (r.map (·.data.toList)))) := Lib.hid (by
    have := pnumbers_any _ (c - 1) r w he hcut (by omega) (fun s h => hs s (List.mem_cons_of_mem _ h))
    rw [if_neg hc1] at this; exact this)
  have HCT := Lib.hid hct
  have htot := hct.total
  have hBl := (Array.getElem?_eq_some_iff.1 hct.box).1
  obtain ⟨ws, hws⟩ : ∃ ws, ws = (x0 :: r).map (·.data.toList) := ⟨_, rfl⟩
  have HWS := Lib.hid hws
  rw [← hws]
  clear hr hc hs hcut he hct hnn hws
  go_enter Tryz.func11, Tryz.ntmps11
  go_wp2_with fail
  refine HNUM.out.mono ?_
  rintro e w1 ⟨hb1, hp⟩
  have q0 := cell_keep hb1 q0
  have c0 := cell_keep hb1 c0
  have c1 := cell_keep hb1 c1
  have HB1 := Lib.hid hb1
  have HHD : Hid (ws.head? = some x0.data.toList) := Lib.hid (by rw [HWS.out]; rfl)
  have htl : ws.tail = r.map (·.data.toList) := by rw [HWS.out]; rfl
  rw [← htl] at hp
  clear hb1 htl HNUM
  cases hx : nums ws.tail with
  | none =>
    rw [hx] at hp
    obtain rfl := hp
    have HX := Lib.hid hx
    clear hx
    go_wp2
    go_ret
    exact takeBook_noneB HCT.out HB1.out (by unfold addBook; rw [HX.out]) rfl
  | some ns =>
    rw [hx] at hp
    obtain ⟨v, rfl, hv⟩ := hp
    obtain ⟨av, cv, rfl⟩ := owns_slice hv
    have HV := Lib.hid hv
    have HX := Lib.hid hx
    clear hx hv
    by_cases ht : bk.rows.length + bk.lets.length = 300
    · have htB : (((bk.rows.length : Int) + bk.lets.length) == 300) = true := beq_iff_eq.2 (by omega)
      have HT := Lib.hid ht
      clear ht
      go_wp2
      go_ret
      exact takeBook_noneB HCT.out HB1.out (by unfold addBook; rw [HX.out]; simp only; rw [if_pos HT.out]) rfl
    · have htB : (((bk.rows.length : Int) + bk.lets.length) == 300) = false := beq_eq_false_iff_ne.2 (by omega)
      have HT := Lib.hid ht
      clear ht
      go_wp2_with fail
      · have h82 : x0.toList = [82] := by assumption
        have h14 : (ns.length : Int) = 14 := by assumption
        have h0 : ((bk.lets.length : Int) == 0) = true := by assumption
        have HA : Hid (addBook bk ws = some { bk with rows := bk.rows ++ [ns] }) := Lib.hid (by
          unfold addBook; rw [HX.out]; simp only; rw [if_neg HT.out, if_pos ⟨by rw [HHD.out, ← toList_data, h82], by omega, by simpa using h0⟩])
        have HL14 := Lib.hid (show ns.length = 14 by omega)
        clear h82 h14 h0 c1 htB q0
        obtain ⟨i0, hi, hz0, hz1, hz2⟩ := info_parts infoRow
        have hR2 := owns_step (owns_step HCT.out.rows HB1.out) ((Below.refl w1.heap.size w1).drew)
        have hrd : Rd (fun n : Int => Value.int .i64 n) w1.drew av ns ∧ ns.length ≤ cv := by
          obtain ⟨a', c', e1, _, e3, e2, _⟩ := Rd.of_owns (enc := fun n : Int => Value.int .i64 n) (owns_step HV.out ((Below.refl w1.heap.size w1).drew))
          cases e1; exact ⟨e2, e3⟩
        have HRD := Lib.hid hrd
        have htl : bk.rows.length + bk.lets.length ≤ 300 := HCT.out.total
        have hbase : base ≤ w1.heap.size := by
          have h1 := (Array.getElem?_eq_some_iff.1 HCT.out.box).1
          have h2 := HCT.out.hB
          have h3 := HB1.out.size
          omega
        have hBl : B < w1.heap.size := World.block_lt_of_cell? w1 _ c0
        have hnB : (Value.slice ar bk.rows.length cr).ownBlock ≠ some B := owns_box HCT.out.rows HCT.out.box (by decide)
        have HBX : Hid (w1.drew.heap[B]? = some (.cells #[.slice ar bk.rows.length cr, .slice al bk.lets.length cl] 25 (0, 0))) := Lib.hid ((HB1.out.block B (Array.getElem?_eq_some_iff.1 HCT.out.box).1).trans HCT.out.box)
        have C0 := c0
        clear hrd
        go_region_law (first
            | (go_simp; go_at_call 13; refine (prow_len av cv ns _ HRD.out.1 HL14.out HRD.out.2).mono ?_; rintro e w3 ⟨rfl, hb3⟩; have hB3 : B < w3.heap.size := (by have := hb3.size; simp at this; omega); have hc3 : w3.cell? ⟨B, 0, none⟩ = some (.slice ar bk.rows.length cr) := (hb3.cell (p := ⟨B, 0, none⟩) (by simpa using hBl)).trans C0)
            | (refine step_append_lies _ (by rfl) _ _ _ (by rfl) base 48 i0 _ 14 112 Tryz.underlying22 hi hz0 hz1 hz2 rfl (by omega) (.slice ar bk.rows.length cr) bk.rows.length (rowCells bk.rows) (by rfl) ((owns_step hR2 hb3).alloc _)
                ⟨w3.heap.size, 0, none⟩ 1 1 (rowVal ns).toList (by rfl) (by rfl) (World.news_of_block (cs := rowVal ns) (t := 48) (fr := (0, 0)) (heap_alloc_new w3 _)) (by simp [rowVal, Value.oneCell'])
                (by omega) (by unfold maxLen; omega) (by omega) (by have := hb3.size; simp at this ⊢; omega) (w3.heap.size + 1) (by simp) ?_; intro gg cap w4 hown4 hgrow hat hlt; have hbx := box_later HBX.out hb3 hgrow (by simpa using hBl) hnB; have hfr := free_of hbx 0; have hcl : w4.cell? ⟨B, 0, none⟩ = some (.slice ar bk.rows.length cr) := cell_of hbx 0))
        all_goals
          have hfin := cb_row HCT.out (HB1.out.trans (below_then (below_then ((Below.refl w1.heap.size w1).drew) hb3 (Nat.le_refl _)) (below_alloc w3 (.cells (rowVal ns) 48)) (Nat.le_refl _) |>.mono HB1.out.size)) hown4 hgrow (hat.imp id (fun e => by have := HB1.out.size; have := hb3.size; simp at this; omega)) HT.out
          go_wp2
          go_ret
          exact takeBook_some hfin.1 HA.out rfl hfin.2.1 hfin.2.2
      · have h82 : x0.toList = [82] := by assumption
        have h0 : ((bk.lets.length : Int) == 0) = false := by assumption
        have hA : addBook bk ws = none := by
          unfold addBook; rw [HX.out]; simp only; rw [if_neg HT.out, if_neg (fun h => by have := h.2.2; rw [this] at h0; simp at h0), if_neg (fun h => by rw [HHD.out, ← toList_data, h82] at h; simp at h)]
        go_ret
        exact takeBook_noneB HCT.out HB1.out hA rfl
      · have h82 : x0.toList = [82] := by assumption
        have h14 : ¬ (ns.length : Int) = 14 := by assumption
        have hA : addBook bk ws = none := by
          unfold addBook; rw [HX.out]; simp only; rw [if_neg HT.out, if_neg (fun h => by omega), if_neg (fun h => by rw [HHD.out, ← toList_data, h82] at h; simp at h)]
        go_ret
        exact takeBook_noneB HCT.out HB1.out hA rfl
      · have h82 : ¬ x0.toList = [82] := by assumption
        have h76 : x0.toList = [76] := by assumption
        have h8 : ((ns.length : Int) == 8) = true := by assumption
        have HL8 := Lib.hid (show ns.length = 8 by have := beq_iff_eq.1 h8; omega)
        have HA : Hid (addBook bk ws = if letOk ns then some { bk with lets := bk.lets ++ [ns] } else none) := Lib.hid (by
          unfold addBook; rw [HX.out]; simp only; rw [if_neg HT.out, if_neg (fun h => by rw [HHD.out, ← toList_data, h76] at h; simp at h), if_pos ⟨by rw [HHD.out, ← toList_data, h76], HL8.out⟩])
        have hrd : Rd (fun n : Int => Value.int .i64 n) w1 av ns := by
          obtain ⟨a', c', e1, _, _, e2, _⟩ := Rd.of_owns (enc := fun n : Int => Value.int .i64 n) HV.out
          cases e1; exact e2
        have HRD := Lib.hid hrd
        clear h82 h76 h8 c0 htB hrd q0
        refine (pletter_len av cv ns _ HRD.out HL8.out).mono ?_
        rintro e w3 ⟨rfl, hb3⟩
        have hc3 := cell_keep hb3 c1
        have hBl : B < w1.heap.size := World.block_lt_of_cell? w1 _ c1
        have HB3 := Lib.hid (below_then HB1.out hb3 (Nat.le_refl _))
        have hBX3 : w3.heap[B]? = some (.cells #[.slice ar bk.rows.length cr, .slice al bk.lets.length cl] 25 (0, 0)) := (HB3.out.block B (Array.getElem?_eq_some_iff.1 HCT.out.box).1).trans HCT.out.box
        have HBX3 := Lib.hid hBX3
        clear hb3 hBX3 c1
        obtain ⟨i0, hi, hz0, hz1, hz2⟩ := info_parts infoLetter
        have htl : bk.rows.length + bk.lets.length ≤ 300 := HCT.out.total
        have hbase : base ≤ w3.heap.size := by
          have h1 := (Array.getElem?_eq_some_iff.1 HCT.out.box).1
          have h2 := HCT.out.hB
          have h3 := HB3.out.size
          omega
        have hnB : (Value.slice al bk.lets.length cl).ownBlock ≠ some B := owns_box HCT.out.lets HCT.out.box (by decide)
        have hB3 : B < w3.heap.size := World.block_lt_of_cell? w3 _ hc3
        obtain ⟨W4, hW4⟩ : ∃ W4, W4 = (w3.alloc (.cells #[.int .i64 (nth ns 0), .int .i64 (nth ns 1), .int .u8 (nth ns 2 % 256), .int .i64 (nth ns 3), .int .i64 (nth ns 4), .int .i64 (nth ns 5), .int .i64 (nth ns 6), .bool (nth ns 7 == 1)] 51)).alloc (.cells #[.int .i64 (nth ns 0), .int .i64 (nth ns 1), .int .u8 (nth ns 2 % 256), .int .i64 (nth ns 3), .int .i64 (nth ns 4), .int .i64 (nth ns 5), .int .i64 (nth ns 6), .bool (nth ns 7 == 1)] 51) := ⟨_, rfl⟩
        have HBA : Hid (Below w.heap.size w W4) := Lib.hid (by rw [hW4]; exact (HB3.out.alloc HB3.out.size _).alloc (by have := HB3.out.size; simp; omega) _)
        have hnew : W4.heap[w3.heap.size + 1]? = some (.cells #[.int .i64 (nth ns 0), .int .i64 (nth ns 1), .int .u8 (nth ns 2 % 256), .int .i64 (nth ns 3), .int .i64 (nth ns 4), .int .i64 (nth ns 5), .int .i64 (nth ns 6), .bool (nth ns 7 == 1)] 51 (0, 0)) := by
          rw [hW4]; have h := heap_alloc_new (w3.alloc (.cells #[.int .i64 (nth ns 0), .int .i64 (nth ns 1), .int .u8 (nth ns 2 % 256), .int .i64 (nth ns 3), .int .i64 (nth ns 4), .int .i64 (nth ns 5), .int .i64 (nth ns 6), .bool (nth ns 7 == 1)] 51)) (.cells #[.int .i64 (nth ns 0), .int .i64 (nth ns 1), .int .u8 (nth ns 2 % 256), .int .i64 (nth ns 3), .int .i64 (nth ns 4), .int .i64 (nth ns 5), .int .i64 (nth ns 6), .bool (nth ns 7 == 1)] 51); rw [World.size_alloc] at h; exact h
        have hsz4 : W4.heap.size = w3.heap.size + 2 := by rw [hW4]; simp
        have hL4 := owns_step HCT.out.lets HBA.out
        go_wp2_with (at_builtin; rw [← hW4]; refine wpList_append_lies _ rfl _ _ 23 rfl base 51 i0 _ 8 64 Tryz.underlying23 hi hz0 hz1 hz2 rfl (by decide) (.slice al bk.lets.length cl) bk.lets.length (letCells bk.lets) rfl hL4 ⟨w3.heap.size + 1, 0, none⟩ 1 1 [.int .i64 (nth ns 0), .int .i64 (nth ns 1), .int .u8 (nth ns 2 % 256), .int .i64 (nth ns 3), .int .i64 (nth ns 4), .int .i64 (nth ns 5), .int .i64 (nth ns 6), .bool (nth ns 7 == 1)] rfl rfl ?c1 ?c2 (by decide) ?c3 ?c4 ?c5 (w3.heap.size + 2) hsz4 ?_)
        case c1 => exact World.news_of_block (cs := #[.int .i64 (nth ns 0), .int .i64 (nth ns 1), .int .u8 (nth ns 2 % 256), .int .i64 (nth ns 3), .int .i64 (nth ns 4), .int .i64 (nth ns 5), .int .i64 (nth ns 6), .bool (nth ns 7 == 1)]) (t := 51) (fr := (0, 0)) hnew
        case c2 => simp [Value.oneCell']
        case c3 => unfold maxLen; omega
        case c4 => omega
        case c5 => omega
        intro gg cap w5 hown5 hgrow hat hlt
        rw [← hW4] at hgrow
        have hbx := box_grown HCT.out.box HBA.out hgrow hnB
        have g5 : w5.cell? ⟨B, 1, none⟩ = some (.slice al bk.lets.length cl) := cell_of hbx 1
        have f5 := free_of hbx 1
        have HOWN5 := Lib.hid hown5
        have HG := Lib.hid hgrow
        have HAT := Lib.hid hat
        have HON := Lib.hid (((Only.of_below HBA.out).grown hgrow (O := fun k => k = B ∨ (Value.slice ar bk.rows.length cr).ownBlock = some k ∨ (Value.slice al bk.lets.length cl).ownBlock = some k) (fun k hk => .inl (.inr (.inr hk)))).setCell (a := ⟨B, 1, none⟩) (.inl (.inl rfl)) (.slice (some ⟨gg, 0, none⟩) (bk.lets.length + 1) cap))
        have HBX5 : Hid ((w5.setCell ⟨B, 1, none⟩ (.slice (some ⟨gg, 0, none⟩) (bk.lets.length + 1) cap)).heap[B]? = some (.cells #[.slice ar bk.rows.length cr, .slice (some ⟨gg, 0, none⟩) (bk.lets.length + 1) cap] 25 (0, 0))) := Lib.hid (by rw [box_set hbx]; rfl)
        clear hbx hown5 hgrow hat hW4
        cases hok : letOk ns with
        | false =>
          have HA2 := Lib.hid (show addBook bk ws = none by rw [HA.out, hok]; rfl)
          clear hok
          go_wp2
          go_ret
          exact takeBook_none HON.out ⟨_, _, HBX5.out⟩ HA2.out rfl
        | true =>
          have HA2 := Lib.hid (show addBook bk ws = some { bk with lets := bk.lets ++ [ns] } by rw [HA.out, hok]; rfl)
          have hle := letW_ok hok
          clear hok
          have hfin := cb_let (ns := ns) HCT.out HBA.out (by have := HOWN5.out; rw [hle] at this; exact this) HG.out (HAT.out.imp id (fun e => by have := HB3.out.size; omega)) HT.out
          have HF := Lib.hid hfin
          clear hle hfin
          go_wp2
          go_ret
          exact takeBook_some HF.out.1 HA2.out rfl HF.out.2.1 HF.out.2.2
      · have h76 : x0.toList = [76] := by assumption
        have h8 : ((ns.length : Int) == 8) = false := by assumption
        have hA : addBook bk ws = none := by
          unfold addBook; rw [HX.out]; simp only; rw [if_neg HT.out, if_neg (fun h => by rw [HHD.out, ← toList_data, h76] at h; simp at h), if_neg (fun h => by have := h.2; rw [this] at h8; simp at h8)]
        go_ret
        exact takeBook_noneB HCT.out HB1.out hA rfl
      · have h82 : ¬ x0.toList = [82] := by assumption
        have h76 : ¬ x0.toList = [76] := by assumption
        have hA : addBook bk ws = none := by
          unfold addBook; rw [HX.out]; simp only; rw [if_neg HT.out, if_neg (fun h => h82 (by rw [toList_data]; have := h.1; rw [HHD.out] at this; simpa using this)), if_neg (fun h => h76 (by rw [toList_data]; have := h.1; rw [HHD.out] at this; simpa using this))]
        go_ret
        exact takeBook_noneB HCT.out HB1.out hA rfl
end Go.Proofs.YtjamdppihpeijaaGreatDoor
