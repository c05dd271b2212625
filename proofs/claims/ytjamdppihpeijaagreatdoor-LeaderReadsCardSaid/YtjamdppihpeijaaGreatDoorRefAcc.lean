/- The reference's content at work, as it lies in memory, and 'count'; there are fewer lines than memory has places. -/
import Derived.Test.YtjamdppihpeijaaGreatDoorRefLet
import Derived.Test.YtjamdppihpeijaaGreatDoorRefNums
import Derived.Test.YtjamdppihpeijaaGreatDoorRefCmd
import Derived.Deep.RegionHeld3
import Derived.Deep.AppendLies
namespace Go.Proofs.YtjamdppihpeijaaGreatDoor
open Go.RowKit

theorem rcount_any (B n1 n2 n3 c1 c2 c3 : Nat) (a1 a2 a3 : Option Addr) (w : World) (h0 : w.cell? ⟨B, 0, none⟩ = some (.slice a1 n1 c1)) (h1 : w.cell? ⟨B, 1, none⟩ = some (.slice a2 n2 c2)) (h2 : w.cell? ⟨B, 2, none⟩ = some (.slice a3 n3 c3))
    (l1 : n1 ≤ 1000000000) (l2 : n2 ≤ 1000000000) (l3 : n3 ≤ 1000000000) :
    Calls Tryz.prog 48 #[.pointer (some ⟨B, 0, none⟩)] w fun e w' => e = .returned (.int .i64 ((n1 : Int) + n2 + n3)) ∧ ∃ q, w' = w.drewN q := by
  have hw1 : IntKind.i64.wrap ((n1 : Int) + n2) = (n1 : Int) + n2 := IntWalk.i64_in _ (by omega)
  have hw2 : IntKind.i64.wrap ((n1 : Int) + n2 + n3) = (n1 : Int) + n2 + n3 := IntWalk.i64_in _ (by omega)
  go_enter Tryz.func48, Tryz.ntmps48
  go_wp2
  go_quiet (fail)
  go_wp2
  go_ret
  exact ⟨rfl, _, rfl⟩

structure Ct (w : World) (base B : Nat) (bk : Bk) (vr vl : Value) : Prop where
  box : w.heap[B]? = some (.cells #[vr, vl, .slice none 0 0, .bool false] 57 (0, 0))
  hB : base ≤ B
  rows : w.ownsRow base 48 14 vr bk.rows.length (rowCells bk.rows)
  lets : w.ownsRow base 51 8 vl bk.lets.length (letCells bk.lets)
  total : bk.rows.length + bk.lets.length ≤ 300
def AddBookPost (base B : Nat) (bk : Bk) (vr vl : Value) (ws : List (List UInt8)) (w : World) (e : Ending) (w' : World) : Prop :=
  Only (fun k => k = B ∨ vr.ownBlock = some k ∨ vl.ownBlock = some k) w w' ∧
  match addBook bk ws with
  | none => e = .returned (.bool false)
  | some bk' => e = .returned (.bool true) ∧ ∃ vr' vl', Ct w' base B bk' vr' vl' ∧ ∀ k, vr'.ownBlock = some k ∨ vl'.ownBlock = some k → vr.ownBlock = some k ∨ vl.ownBlock = some k ∨ w.heap.size ≤ k
theorem addBook_none {base B : Nat} {bk : Bk} {vr vl : Value} {ws : List (List UInt8)} {w : World} {e : Ending} {w' : World} (ho : Only (fun k => k = B ∨ vr.ownBlock = some k ∨ vl.ownBlock = some k) w w') (h : addBook bk ws = none) (he : e = .returned (.bool false)) : AddBookPost base B bk vr vl ws w e w' := by
  refine ⟨ho, ?_⟩; rw [h]; exact he
theorem addBook_some {base B : Nat} {bk bk' : Bk} {vr vl vr' vl' : Value} {ws : List (List UInt8)} {w : World} {e : Ending} {w' : World} (ho : Only (fun k => k = B ∨ vr.ownBlock = some k ∨ vl.ownBlock = some k) w w') (h : addBook bk ws = some bk') (he : e = .returned (.bool true))
    (hc : Ct w' base B bk' vr' vl') (hn : ∀ k, vr'.ownBlock = some k ∨ vl'.ownBlock = some k → vr.ownBlock = some k ∨ vl.ownBlock = some k ∨ w.heap.size ≤ k) : AddBookPost base B bk vr vl ws w e w' := by
  refine ⟨ho, ?_⟩; rw [h]; exact ⟨he, vr', vl', hc, hn⟩
theorem cell_of {w : World} {B : Nat} {cs : Array Value} {T : TypeId} (h : w.heap[B]? = some (.cells cs T (0, 0))) (j : Nat) : w.cell? ⟨B, j, none⟩ = cs[j]? := cell_of_row w B j cs T (0, 0) h
theorem free_of {w : World} {B : Nat} {cs : Array Value} {T : TypeId} (h : w.heap[B]? = some (.cells cs T (0, 0))) (j : Nat) : w.frozen? ⟨B, j, none⟩ = false := by simp [World.frozen?, h]

theorem box_later {w w3 w4 : World} {B : Nat} {cs : Array Value} {T : TypeId} {o : Obj} {row : Option Nat} (h : w.heap[B]? = some (.cells cs T (0, 0))) (hb3 : Below w.heap.size w w3) (hg : (w3.alloc o).grownBy w4 row) (hB : B < w.heap.size) (hn : row ≠ some B) : w4.heap[B]? = some (.cells cs T (0, 0)) := by
  have h3 : w3.heap[B]? = some (.cells cs T (0, 0)) := (hb3.block B hB).trans h
  rw [hg.block B (by have := hb3.size; simp; omega) (fun e => hn e.symm), Below.heap_alloc _ _ _ (by have := hb3.size; omega)]; exact h3
theorem box_set {w : World} {B j : Nat} {cs : Array Value} {T : TypeId} (h : w.heap[B]? = some (.cells cs T (0, 0))) (v : Value) : (w.setCell ⟨B, j, none⟩ v).heap[B]? = some (.cells (cs.setIfInBounds j v) T (0, 0)) := by
  simp [World.setCell, Array.getElem?_modify, h]
theorem ct_row {w w3 w4 : World} {base B n gg cap : Nat} {bk : Bk} {ar : Option Addr} {cr : Nat} {vl : Value} {ns : List Int} (hct : Ct w base B bk (.slice ar n cr) vl) (hb : Below w.heap.size w w3)
    (hown : w4.ownsRow base 48 14 (.slice (some ⟨gg, 0, none⟩) (bk.rows.length + 1) cap) (bk.rows.length + 1) (rowCells bk.rows ++ (rowVal ns).toList)) (hg : w3.grownBy w4 (Value.slice ar n cr).ownBlock)
    (hat : (Value.slice ar n cr).ownBlock = some gg ∨ w.heap.size ≤ gg) (ht : bk.rows.length + bk.lets.length ≠ 300) :
    Only (fun k => k = B ∨ (Value.slice ar n cr).ownBlock = some k ∨ vl.ownBlock = some k) w (w4.setCell ⟨B, 0, none⟩ (.slice (some ⟨gg, 0, none⟩) (bk.rows.length + 1) cap)) ∧
      Ct (w4.setCell ⟨B, 0, none⟩ (.slice (some ⟨gg, 0, none⟩) (bk.rows.length + 1) cap)) base B { bk with rows := bk.rows ++ [ns] } (.slice (some ⟨gg, 0, none⟩) (bk.rows.length + 1) cap) vl ∧
      ∀ k, (Value.slice (some ⟨gg, 0, none⟩) (bk.rows.length + 1) cap).ownBlock = some k ∨ vl.ownBlock = some k → (Value.slice ar n cr).ownBlock = some k ∨ vl.ownBlock = some k ∨ w.heap.size ≤ k := by
  have hBl := (Array.getElem?_eq_some_iff.1 hct.box).1
  have hbx : w4.heap[B]? = some (.cells #[.slice ar n cr, vl, .slice none 0 0, .bool false] 57 (0, 0)) := by
    rw [hg.block B (by have := hb.size; omega) (fun e => owns_box hct.rows hct.box (by decide) e.symm), hb.block B hBl]; exact hct.box
  have hl3 := owns_step hct.lets hb
  have hr3 := owns_step hct.rows hb
  have hl4 := hl3.kept hg (owns_ne hl3 hr3 (by decide))
  refine ⟨?_, ⟨?_, hct.hB, ?_, ?_, ?_⟩, ?_⟩
  · exact ((Only.of_below hb).grown hg (fun k hk => .inl (.inr (.inl hk)))).setCell (.inl (.inl rfl)) _
  · rw [box_set hbx]; rfl
  · have := owns_setCell hown (a := ⟨B, 0, none⟩) (owns_box hown hbx (by decide)) (.slice (some ⟨gg, 0, none⟩) (bk.rows.length + 1) cap)
    rw [rowCells_snoc]; simpa using this
  · exact owns_setCell hl4 (a := ⟨B, 0, none⟩) (owns_box hl4 hbx (by decide)) _
  · have := hct.total; simp; omega
  · rintro k (hk | hk)
    · obtain rfl : gg = k := by simpa [Value.ownBlock] using hk
      rcases hat with h | h
      · exact .inl h
      · exact .inr (.inr h)
    · exact .inr (.inl hk)
theorem box_grown {w W w4 : World} {B : Nat} {cs : Array Value} {T : TypeId} {row : Option Nat} (h : w.heap[B]? = some (.cells cs T (0, 0))) (hb : Below w.heap.size w W) (hg : W.grownBy w4 row) (hn : row ≠ some B) : w4.heap[B]? = some (.cells cs T (0, 0)) := by
  have hBl := (Array.getElem?_eq_some_iff.1 h).1
  rw [hg.block B (by have := hb.size; omega) (fun e => hn e.symm), hb.block B hBl]; exact h
theorem ct_let {w w3 w4 : World} {base B n gg cap : Nat} {bk : Bk} {al : Option Addr} {cl : Nat} {vr : Value} {ns : List Int} (hct : Ct w base B bk vr (.slice al n cl)) (hb : Below w.heap.size w w3)
    (hown : w4.ownsRow base 51 8 (.slice (some ⟨gg, 0, none⟩) (bk.lets.length + 1) cap) (bk.lets.length + 1) (letCells bk.lets ++ (letVal ns).toList)) (hg : w3.grownBy w4 (Value.slice al n cl).ownBlock)
    (hat : (Value.slice al n cl).ownBlock = some gg ∨ w.heap.size ≤ gg) (ht : bk.rows.length + bk.lets.length ≠ 300) :
    Only (fun k => k = B ∨ vr.ownBlock = some k ∨ (Value.slice al n cl).ownBlock = some k) w (w4.setCell ⟨B, 1, none⟩ (.slice (some ⟨gg, 0, none⟩) (bk.lets.length + 1) cap)) ∧
      Ct (w4.setCell ⟨B, 1, none⟩ (.slice (some ⟨gg, 0, none⟩) (bk.lets.length + 1) cap)) base B { bk with lets := bk.lets ++ [ns] } vr (.slice (some ⟨gg, 0, none⟩) (bk.lets.length + 1) cap) ∧
      ∀ k, vr.ownBlock = some k ∨ (Value.slice (some ⟨gg, 0, none⟩) (bk.lets.length + 1) cap).ownBlock = some k → vr.ownBlock = some k ∨ (Value.slice al n cl).ownBlock = some k ∨ w.heap.size ≤ k := by
  have hbx := box_grown hct.box hb hg (owns_box hct.lets hct.box (by decide))
  have hl3 := owns_step hct.lets hb
  have hr3 := owns_step hct.rows hb
  have hr4 := hr3.kept hg (owns_ne hr3 hl3 (by decide))
  refine ⟨?_, ⟨?_, hct.hB, ?_, ?_, ?_⟩, ?_⟩
  · exact ((Only.of_below hb).grown hg (fun k hk => .inl (.inr (.inr hk)))).setCell (.inl (.inl rfl)) _
  · rw [box_set hbx]; rfl
  · exact owns_setCell hr4 (a := ⟨B, 1, none⟩) (owns_box hr4 hbx (by decide)) _
  · have := owns_setCell hown (a := ⟨B, 1, none⟩) (owns_box hown hbx (by decide)) (.slice (some ⟨gg, 0, none⟩) (bk.lets.length + 1) cap)
    rw [letCells_snoc]; simpa using this
  · have := hct.total; simp; omega
  · rintro k (hk | hk)
    · exact .inl hk
    · obtain rfl : gg = k := by simpa [Value.ownBlock] using hk
      rcases hat with h | h
      · exact .inr (.inl h)
      · exact .inr (.inr h)
theorem rrow_len (a : Option Addr) (c : Nat) (ns : List Int) (w : World) (hr : Rd (fun n : Int => Value.int .i64 n) w a ns) (hn : ns.length = 14) :
    Calls Tryz.prog 50 #[.slice a ns.length c] w fun e w' => e = .returned (.agg #[.int .i64 (nth ns 0), .int .i64 (nth ns 1), .int .i64 (nth ns 2), .int .i64 (nth ns 3), .int .i64 (nth ns 4), .int .i64 (nth ns 5), .int .i64 (nth ns 6), .int .i64 (nth ns 7), .int .i64 (nth ns 8), .int .i64 (nth ns 9), .int .i64 (nth ns 10), .int .i64 (nth ns 11), .int .i64 (nth ns 12), .int .i64 (nth ns 13)]) ∧ Below w.heap.size w w' := by
  have := rrow_any a c ns w hr hn
  rw [hn]; exact this
theorem rletter_len (a : Option Addr) (c : Nat) (ns : List Int) (w : World) (hr : Rd (fun n : Int => Value.int .i64 n) w a ns) (hn : ns.length = 8) :
    Calls Tryz.prog 51 #[.slice a ns.length c] w (LetPost ns w) := by
  have := rletter_any a c ns w hr hn
  rwa [hn]
set_option maxRecDepth 100000 in
set_option maxHeartbeats 1000000 in
theorem radd_book (s : ByteArray) (a : Option Addr) (c : Nat) (ms : List (Nat × Nat)) (base B : Nat) (bk : Bk) (vr vl : Value) (w : World) (hct : Ct w base B bk vr vl) (hr : RdM w a ms) (hne : ms ≠ []) (hm : ∀ m ∈ ms, m.1 ≤ m.2 ∧ m.2 ≤ s.size) (hs : s.size ≤ 1000000000) (hn : ms.length ≤ 1000000001) :
    Calls Tryz.prog 34 #[.pointer (some ⟨B, 0, none⟩), .string s, .slice a ms.length c] w (AddBookPost base B bk vr vl (ms.map (sub s.data.toList)) w) := by
  obtain ⟨ar, cr, rfl⟩ := owns_slice hct.rows
  obtain ⟨al, cl, rfl⟩ := owns_slice hct.lets
  have c0 := cell_of hct.box 0
  have c1 := cell_of hct.box 1
  have c2 := cell_of hct.box 2
  have c3 := cell_of hct.box 3
  simp only [List.getElem?_toArray, List.getElem?_cons_zero, List.getElem?_cons_succ] at c0 c1 c2 c3
  have HCT := Lib.hid hct
  have HR := Lib.hid hr
  have HMS := Lib.hid hm
  obtain ⟨b, o, rfl, hbl, hc⟩ := hr.resolve_left hne
  obtain ⟨m0, hm0⟩ : ∃ m, ms[0]? = some m := by cases ms with | nil => exact absurd rfl hne | cons x _ => exact ⟨x, rfl⟩
  have q0 := (hc 0 m0 hm0).1
  have q1 := (hc 0 m0 hm0).2
  obtain ⟨hb1, hb2⟩ := hm m0 (List.mem_of_getElem? hm0)
  rw [Nat.zero_mul, Nat.add_zero] at q0 q1
  have hlen : 0 < ms.length := by cases ms with | nil => exact absurd rfl hne | cons _ _ => simp
  have HM0 := Lib.hid hm0
  have HNE := Lib.hid hne
  clear hct hr hm hc hm0 hne
  have h1ms : 1 ≤ ms.length := hlen
  obtain ⟨ws, hws⟩ : ∃ ws, ws = ms.map (sub s.data.toList) := ⟨_, rfl⟩
  obtain ⟨x0, hx0⟩ : ∃ x0 : ByteArray, x0 = s.extract m0.1 m0.2 := ⟨_, rfl⟩
  have HHD : Hid (ws.head? = some x0.data.toList) := Lib.hid (by rw [hws, hx0, bytes_extract, List.head?_eq_getElem?, List.getElem?_map, HM0.out]; rfl)
  have HWS := Lib.hid hws
  rw [← hws]
  have HX0 := Lib.hid hx0
  clear hws hx0
  go_enter Tryz.func34, Tryz.ntmps34
  go_wp2
  go_quiet (fail)
  go_wp2_with fail
  refine (rnumbers_any s _ c ms 1 (w.drewN nq) (HR.out.step (below_drewN _ _ _)) h1ms HMS.out hs hn).mono ?_
  rintro e w1 ⟨hbN, hp⟩
  rw [← HWS.out, List.drop_one] at hp
  rw [← HX0.out]
  have hb1 := (below_drewN w.heap.size w nq).trans hbN
  have c0 := (hb1.cell (p := ⟨B, 0, none⟩) (Array.getElem?_eq_some_iff.1 HCT.out.box).1).trans c0
  have c1 := (hb1.cell (p := ⟨B, 1, none⟩) (Array.getElem?_eq_some_iff.1 HCT.out.box).1).trans c1
  have c2 := (hb1.cell (p := ⟨B, 2, none⟩) (Array.getElem?_eq_some_iff.1 HCT.out.box).1).trans c2
  have HB1 := Lib.hid hb1
  clear hbN hb1
  cases hx : nums ws.tail with
  | none =>
    rw [hx] at hp
    obtain rfl := hp
    have HX := Lib.hid hx
    clear hx
    go_wp2
    go_ret
    exact addBook_none (Only.of_below HB1.out) (by unfold addBook; rw [HX.out]) rfl
  | some ns =>
    rw [hx] at hp
    obtain ⟨v, rfl, hv⟩ := hp
    obtain ⟨av, cv, rfl⟩ := owns_slice hv
    have HV := Lib.hid hv
    have HX := Lib.hid hx
    clear hx hv
    have htot := HCT.out.total
    go_wp2_with fail
    refine (rcount_any B bk.rows.length bk.lets.length 0 cr cl 0 ar al none w1 c0 c1 c2 (by omega) (by omega) (by omega)).mono ?_
    rintro e w2 ⟨rfl, q, rfl⟩
    by_cases ht : bk.rows.length + bk.lets.length = 300
    · have htB : (((bk.rows.length : Int) + bk.lets.length) == 300) = true := beq_iff_eq.2 (by omega)
      have HT := Lib.hid ht
      clear ht htot
      go_wp2
      go_ret
      exact addBook_none (Only.of_below (HB1.out.trans (below_drewN _ _ _))) (by unfold addBook; rw [HX.out]; simp only; rw [if_pos HT.out]) rfl
    · have htB : (((bk.rows.length : Int) + bk.lets.length) == 300) = false := beq_eq_false_iff_ne.2 (by omega)
      have HT := Lib.hid ht
      clear ht htot
      go_wp2_with fail
      · have h82 : x0.toList = [82] := by assumption
        have h14 : (ns.length : Int) = 14 := by assumption
        have h0 : ((bk.lets.length : Int) == 0) = true := by assumption
        have HA : Hid (addBook bk ws = some { bk with rows := bk.rows ++ [ns] }) := Lib.hid (by
          unfold addBook; rw [HX.out]; simp only; rw [if_neg HT.out, if_pos ⟨by rw [HHD.out, ← toList_data, h82], by omega, by simpa using h0⟩])
        have HL14 := Lib.hid (show ns.length = 14 by omega)
        have HB2 : Hid (Below w.heap.size w (w1.drewN q)) := Lib.hid (HB1.out.trans (below_drewN _ _ _))
        have HV2 : Hid ((w1.drewN q).ownsRow w.heap.size 3 1 (.slice av ns.length cv) ns.length (ns.map fun n => Value.int .i64 n)) := Lib.hid (owns_step HV.out (below_drewN _ _ _))
        have C0 : (w1.drewN q).cell? ⟨B, 0, none⟩ = some (.slice ar bk.rows.length cr) := c0
        clear h82 h14 h0 c0 c1 c2 htB
        generalize w1.drewN q = W2 at *
        obtain ⟨i0, hi, hz0, hz1, hz2⟩ := info_parts infoRow
        have hR2 := owns_step (owns_step HCT.out.rows HB2.out) ((Below.refl W2.heap.size W2).drew)
        have hrd : Rd (fun n : Int => Value.int .i64 n) W2.drew av ns := by
          obtain ⟨a', c', e1, _, _, e2, _⟩ := Rd.of_owns (enc := fun n : Int => Value.int .i64 n) (owns_step HV2.out ((Below.refl W2.heap.size W2).drew))
          cases e1; exact e2
        have HRD := Lib.hid hrd
        have htl : bk.rows.length + bk.lets.length ≤ 300 := HCT.out.total
        have hbase : base ≤ W2.heap.size := by
          have h1 := (Array.getElem?_eq_some_iff.1 HCT.out.box).1
          have h2 := HCT.out.hB
          have h3 := HB2.out.size
          omega
        have hBl : B < W2.heap.size := World.block_lt_of_cell? W2 _ C0
        have hnB : (Value.slice ar bk.rows.length cr).ownBlock ≠ some B := owns_box HCT.out.rows HCT.out.box (by decide)
        have HBX : Hid (W2.drew.heap[B]? = some (.cells #[.slice ar bk.rows.length cr, .slice al bk.lets.length cl, .slice none 0 0, .bool false] 57 (0, 0))) := Lib.hid ((HB2.out.block B (Array.getElem?_eq_some_iff.1 HCT.out.box).1).trans HCT.out.box)
        clear hrd
        go_region_law (first
            | (go_simp; go_at_call 50; refine (rrow_len av cv ns _ HRD.out HL14.out).mono ?_; rintro e w3 ⟨rfl, hb3⟩; have hB3 : B < w3.heap.size := (by have := hb3.size; simp at this; omega); have hc3 : w3.cell? ⟨B, 0, none⟩ = some (.slice ar bk.rows.length cr) := (hb3.cell (p := ⟨B, 0, none⟩) (by simpa using hBl)).trans C0)
            | (refine step_append_lies _ (by rfl) _ _ _ (by rfl) base 48 i0 _ 14 112 Tryz.underlying22 hi hz0 hz1 hz2 rfl (by omega) (.slice ar bk.rows.length cr) bk.rows.length (rowCells bk.rows) (by rfl) ((owns_step hR2 hb3).alloc _)
                ⟨w3.heap.size, 0, none⟩ 1 1 (rowVal ns).toList (by rfl) (by rfl) (World.news_of_block (cs := rowVal ns) (t := 48) (fr := (0, 0)) (heap_alloc_new w3 _)) (by simp [rowVal, Value.oneCell'])
                (by omega) (by unfold maxLen; omega) (by omega) (by have := hb3.size; simp at this ⊢; omega) (w3.heap.size + 1) (by simp) ?_; intro gg cap w4 hown4 hgrow hat hlt; have hbx := box_later HBX.out hb3 hgrow (by simpa using hBl) hnB; have hfr := free_of hbx 0; have hcl : w4.cell? ⟨B, 0, none⟩ = some (.slice ar bk.rows.length cr) := cell_of hbx 0))
        all_goals
          have hfin := ct_row HCT.out (HB2.out.trans (below_then (below_then ((Below.refl W2.heap.size W2).drew) hb3 (Nat.le_refl _)) (below_alloc w3 (.cells (rowVal ns) 48)) (Nat.le_refl _) |>.mono HB2.out.size)) hown4 hgrow (hat.imp id (fun e => by have := HB2.out.size; have := hb3.size; simp at this; omega)) HT.out
          go_wp2
          go_ret
          exact addBook_some hfin.1 HA.out rfl hfin.2.1 hfin.2.2
      · have h82 : x0.toList = [82] := by assumption
        have h0 : ((bk.lets.length : Int) == 0) = false := by assumption
        have hA : addBook bk ws = none := by
          unfold addBook; rw [HX.out]; simp only; rw [if_neg HT.out, if_neg (fun h => by have := h.2.2; rw [this] at h0; simp at h0), if_neg (fun h => by rw [HHD.out, ← toList_data, h82] at h; simp at h)]
        go_ret
        exact addBook_none (Only.of_below (HB1.out.trans (below_drewN _ _ _))) hA rfl
      · have h82 : x0.toList = [82] := by assumption
        have h14 : ¬ (ns.length : Int) = 14 := by assumption
        have hA : addBook bk ws = none := by
          unfold addBook; rw [HX.out]; simp only; rw [if_neg HT.out, if_neg (fun h => by omega), if_neg (fun h => by rw [HHD.out, ← toList_data, h82] at h; simp at h)]
        go_ret
        exact addBook_none (Only.of_below (HB1.out.trans (below_drewN _ _ _))) hA rfl
      · have h82 : ¬ x0.toList = [82] := by assumption
        have h76 : x0.toList = [76] := by assumption
        have h8 : ((ns.length : Int) == 8) = true := by assumption
        have HL8 := Lib.hid (show ns.length = 8 by have := beq_iff_eq.1 h8; omega)
        have HA : Hid (addBook bk ws = if letOk ns then some { bk with lets := bk.lets ++ [ns] } else none) := Lib.hid (by
          unfold addBook; rw [HX.out]; simp only; rw [if_neg HT.out, if_neg (fun h => by rw [HHD.out, ← toList_data, h76] at h; simp at h), if_pos ⟨by rw [HHD.out, ← toList_data, h76], HL8.out⟩])
        have HB2 : Hid (Below w.heap.size w (w1.drewN q)) := Lib.hid (HB1.out.trans (below_drewN _ _ _))
        have hrd : Rd (fun n : Int => Value.int .i64 n) (w1.drewN q) av ns := by
          obtain ⟨a', c', e1, _, _, e2, _⟩ := Rd.of_owns (enc := fun n : Int => Value.int .i64 n) (owns_step HV.out (below_drewN _ _ q))
          cases e1; exact e2
        have HRD := Lib.hid hrd
        have C1 : (w1.drewN q).cell? ⟨B, 1, none⟩ = some (.slice al bk.lets.length cl) := c1
        clear h82 h76 h8 c0 c1 c2 htB hrd
        generalize w1.drewN q = W2 at *
        refine (rletter_len av cv ns _ HRD.out HL8.out).mono ?_
        rintro e w3 ⟨rfl, hb3⟩
        have hBl : B < W2.heap.size := World.block_lt_of_cell? W2 _ C1
        have hB3 : B < w3.heap.size := Nat.lt_of_lt_of_le hBl hb3.size
        have hc3 : w3.cell? ⟨B, 1, none⟩ = some (.slice al bk.lets.length cl) := (hb3.cell (p := ⟨B, 1, none⟩) hBl).trans C1
        have HB3 := Lib.hid (below_then HB2.out hb3 (Nat.le_refl _))
        clear hb3
        cases hok : letOk ns with
        | false =>
          have HA2 := Lib.hid (show addBook bk ws = none by rw [HA.out, hok]; rfl)
          simp only [Bool.false_eq_true, if_false]
          unfold letNone
          go_wp2
          go_ret
          exact addBook_none (Only.of_below (HB3.out.trans ((Below.refl _ _).alloc HB3.out.size _))) HA2.out rfl
        | true =>
          have HA2 := Lib.hid (show addBook bk ws = some { bk with lets := bk.lets ++ [ns] } by rw [HA.out, hok]; rfl)
          simp only [if_true]
          unfold letVal
          go_wp2
          obtain ⟨i0, hi, hz0, hz1, hz2⟩ := info_parts infoLetter
          have hL2 := owns_step (((owns_step HCT.out.lets HB3.out).alloc (.cells #[.int .i64 (nth ns 0), .int .i64 (nth ns 1), .int .u8 (nth ns 2), .int .i64 (nth ns 3), .int .i64 (nth ns 4), .int .i64 (nth ns 5), .int .i64 (nth ns 6), .bool (nth ns 7 == 1)] 51)).alloc (.cells #[.int .i64 (nth ns 0), .int .i64 (nth ns 1), .int .u8 (nth ns 2), .int .i64 (nth ns 3), .int .i64 (nth ns 4), .int .i64 (nth ns 5), .int .i64 (nth ns 6), .bool (nth ns 7 == 1)] 51)) ((Below.refl _ _).drew)
          have HBA : Hid (Below w.heap.size w ((w3.alloc (.cells #[.int .i64 (nth ns 0), .int .i64 (nth ns 1), .int .u8 (nth ns 2), .int .i64 (nth ns 3), .int .i64 (nth ns 4), .int .i64 (nth ns 5), .int .i64 (nth ns 6), .bool (nth ns 7 == 1)] 51)).alloc (.cells #[.int .i64 (nth ns 0), .int .i64 (nth ns 1), .int .u8 (nth ns 2), .int .i64 (nth ns 3), .int .i64 (nth ns 4), .int .i64 (nth ns 5), .int .i64 (nth ns 6), .bool (nth ns 7 == 1)] 51)).drew) := Lib.hid (((HB3.out.alloc HB3.out.size _).alloc (by have := HB3.out.size; simp; omega) _).drew)
          have htl : bk.rows.length + bk.lets.length ≤ 300 := HCT.out.total
          have hbase : base ≤ w3.heap.size := by
            have h1 := (Array.getElem?_eq_some_iff.1 HCT.out.box).1
            have h2 := HCT.out.hB
            have h3 := HB3.out.size
            omega
          have hnB : (Value.slice al bk.lets.length cl).ownBlock ≠ some B := owns_box HCT.out.lets HCT.out.box (by decide)
          go_region_law (first
            | (refine step_append_lies _ (by rfl) _ _ _ (by rfl) base 51 i0 _ 8 64 Tryz.underlying23 hi hz0 hz1 hz2 rfl (by omega) (.slice al bk.lets.length cl) bk.lets.length (letCells bk.lets) (by rfl) hL2
                ⟨w3.heap.size + 1, 0, none⟩ 1 1 (letVal ns).toList (by rfl) (by rfl) (World.news_of_block (cs := letVal ns) (t := 51) (fr := (0, 0)) (by have h := heap_alloc_new (w3.alloc (.cells #[.int .i64 (nth ns 0), .int .i64 (nth ns 1), .int .u8 (nth ns 2), .int .i64 (nth ns 3), .int .i64 (nth ns 4), .int .i64 (nth ns 5), .int .i64 (nth ns 6), .bool (nth ns 7 == 1)] 51)) (.cells #[.int .i64 (nth ns 0), .int .i64 (nth ns 1), .int .u8 (nth ns 2), .int .i64 (nth ns 3), .int .i64 (nth ns 4), .int .i64 (nth ns 5), .int .i64 (nth ns 6), .bool (nth ns 7 == 1)] 51); rw [World.size_alloc] at h; exact h)) (by simp [letVal, Value.oneCell'])
                (by omega) (by unfold maxLen; omega) (by omega) (by simp; omega) (w3.heap.size + 2) (by simp) ?_; intro gg cap w4 hown4 hgrow hat hlt; have hbx := box_grown HCT.out.box HBA.out hgrow hnB; have hfr := free_of hbx 1; have hcl : w4.cell? ⟨B, 1, none⟩ = some (.slice al bk.lets.length cl) := cell_of hbx 1))
          all_goals
            have hfin := ct_let HCT.out HBA.out hown4 hgrow (hat.imp id (fun e => by have := HB3.out.size; omega)) HT.out
            go_wp2
            go_ret
            exact addBook_some hfin.1 HA2.out rfl hfin.2.1 hfin.2.2
      · have h76 : x0.toList = [76] := by assumption
        have h8 : ((ns.length : Int) == 8) = false := by assumption
        have hA : addBook bk ws = none := by
          unfold addBook; rw [HX.out]; simp only; rw [if_neg HT.out, if_neg (fun h => by rw [HHD.out, ← toList_data, h76] at h; simp at h), if_neg (fun h => by have := h.2; rw [this] at h8; simp at h8)]
        go_ret
        exact addBook_none (Only.of_below (HB1.out.trans (below_drewN _ _ _))) hA rfl
      · have h82 : ¬ x0.toList = [82] := by assumption
        have h76 : ¬ x0.toList = [76] := by assumption
        have hA : addBook bk ws = none := by
          unfold addBook; rw [HX.out]; simp only; rw [if_neg HT.out, if_neg (fun h => h82 (by rw [toList_data]; have := h.1; rw [HHD.out] at this; simpa using this)), if_neg (fun h => h76 (by rw [toList_data]; have := h.1; rw [HHD.out] at this; simpa using this))]
        go_ret
        exact addBook_none (Only.of_below (HB1.out.trans (below_drewN _ _ _))) hA rfl
end Go.Proofs.YtjamdppihpeijaaGreatDoor
