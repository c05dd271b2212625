/- The program's 'ReadLog$1' adds a line's words to the log as the plain 'addLog' does. -/
import Derived.Test.YtjamdppihpeijaaGreatDoorPTakeB
import Derived.Test.YtjamdppihpeijaaGreatDoorKnown
import Derived.Test.YtjamdppihpeijaaGreatDoorRefLog
import Derived.Deep.RegionLaw
namespace Go.Proofs.YtjamdppihpeijaaGreatDoor
open Go.RowKit

def argBlk (cs : List Value) (k : Nat) : Prop := ∃ v ∈ cs, v.ownBlock = some k
theorem EnCells.keep {w w' : World} {base : Nat} {O : Nat → Prop} (ho : Only O w w') : ∀ {cs : List Value} {l : List En}, EnCells w base cs l → (∀ k, argBlk cs k → ¬ O k) → EnCells w' base cs l
  | [], [], _, _ => trivial
  | d :: s :: a :: r, x :: t, h, hO => ⟨h.1, h.2.1, owns_only h.2.2.1 ho (fun k hk => hO k ⟨a, by simp, hk⟩), EnCells.keep ho h.2.2.2 (fun k ⟨v, hv, hk⟩ => hO k ⟨v, by simp [hv], hk⟩)⟩
  | [], _ :: _, h, _ => h.elim
  | [_], _, h, _ => by cases ‹List En› <;> exact h.elim
  | [_, _], _, h, _ => by cases ‹List En› <;> exact h.elim
  | _ :: _ :: _ :: _, [], h, _ => h.elim
theorem EnCells.blk {w : World} {base : Nat} {k : Nat} : ∀ {cs : List Value} {l : List En}, EnCells w base cs l → argBlk cs k → base ≤ k ∧ ∃ cur, w.heap[k]? = some (.cells cur 3 (0, 0))
  | [], [], _, ⟨v, hv, _⟩ => by simp at hv
  | d :: s :: a :: r, x :: t, h, ⟨v, hv, hk⟩ => by
    rcases List.mem_cons.1 hv with rfl | hv
    · rw [h.1] at hk; cases hk
    rcases List.mem_cons.1 hv with rfl | hv
    · obtain ⟨b, hb, _⟩ := h.2.1; rw [hb] at hk; cases hk
    rcases List.mem_cons.1 hv with rfl | hv
    · have := owns_block h.2.2.1 hk; exact ⟨this.1, this.2.2⟩
    · exact EnCells.blk h.2.2.2 ⟨v, hv, hk⟩
  | [], _ :: _, h, _ => h.elim
  | [_], _, h, _ => by cases ‹List En› <;> exact h.elim
  | [_, _], _, h, _ => by cases ‹List En› <;> exact h.elim
  | _ :: _ :: _ :: _, [], h, _ => h.elim

structure Cl (w : World) (base B : Nat) (lg : List En) (vg : Value) (cs : List Value) : Prop where
  box : w.heap[B]? = some (.cells #[vg] 31 (0, 0))
  hB : base ≤ B
  own : w.ownsRow base 62 3 vg lg.length cs
  en : EnCells w base cs lg
  total : lg.length ≤ 200
def TakeLogPost (base B : Nat) (lg : List En) (vg : Value) (cs : List Value) (ws : List (List UInt8)) (w : World) (e : Ending) (w' : World) : Prop :=
  Only (fun k => k = B ∨ vg.ownBlock = some k) w w' ∧
  match addLog lg ws with
  | none => e = .returned (.bool false) ∧ ∃ v, w'.heap[B]? = some (.cells #[v] 31 (0, 0))
  | some lg' => e = .returned (.bool true) ∧ ∃ vg' cs', Cl w' base B lg' vg' cs' ∧ ∀ k, vg'.ownBlock = some k ∨ argBlk cs' k → vg.ownBlock = some k ∨ argBlk cs k ∨ w.heap.size ≤ k
section
variable {base B : Nat} {lg lg' : List En} {vg vg' : Value} {cs cs' : List Value} {ws : List (List UInt8)} {w w' : World} {e : Ending}
theorem takeLog_none (hct : Cl w base B lg vg cs) (hb : Below w.heap.size w w') (h : addLog lg ws = none) (he : e = .returned (.bool false)) : TakeLogPost base B lg vg cs ws w e w' := by
  refine ⟨Only.of_below hb, ?_⟩; rw [h]; exact ⟨he, _, (hb.block B (Array.getElem?_eq_some_iff.1 hct.box).1).trans hct.box⟩
theorem takeLog_some (ho : Only (fun k => k = B ∨ vg.ownBlock = some k) w w') (h : addLog lg ws = some lg') (he : e = .returned (.bool true))
    (hc : Cl w' base B lg' vg' cs') (hn : ∀ k, vg'.ownBlock = some k ∨ argBlk cs' k → vg.ownBlock = some k ∨ argBlk cs k ∨ w.heap.size ≤ k) : TakeLogPost base B lg vg cs ws w e w' := by
  refine ⟨ho, ?_⟩; rw [h]; exact ⟨he, vg', cs', hc, hn⟩
end
theorem cl_add {w W w5 : World} {base B : Nat} {lg : List En} {vg v' a' : Value} {cs : List Value} {x : En} {d : Value} {sb : ByteArray}
    (hct : Cl w base B lg vg cs) (hb' : Below w.heap.size w W) (hv : W.ownsRow w.heap.size 3 1 a' x.args.length (x.args.map fun n => Value.int .i64 n))
    (hown5 : w5.ownsRow base 62 3 v' (lg.length + 1) (cs ++ [d, .string sb, a'])) (hg : W.grownBy w5 vg.ownBlock) (hd : d = .int .i64 x.day) (hs : sb.data.toList = x.word) (hat : ∀ k, v'.ownBlock = some k → vg.ownBlock = some k ∨ w.heap.size ≤ k) (ht : lg.length + 1 ≤ 200) :
    w5.heap[B]? = some (.cells #[vg] 31 (0, 0)) ∧
    Only (fun k => k = B ∨ vg.ownBlock = some k) w (w5.setCell ⟨B, 0, none⟩ v') ∧ Cl (w5.setCell ⟨B, 0, none⟩ v') base B (lg ++ [x]) v' (cs ++ [d, .string sb, a']) ∧ ∀ k, v'.ownBlock = some k ∨ argBlk (cs ++ [d, .string sb, a']) k → vg.ownBlock = some k ∨ argBlk cs k ∨ w.heap.size ≤ k := by
  have hBl := (Array.getElem?_eq_some_iff.1 hct.box).1
  have hbx := box_grown hct.box hb' hg (owns_box hct.own hct.box (by decide))
  have ho : Only (fun k => k = B ∨ vg.ownBlock = some k) w (w5.setCell ⟨B, 0, none⟩ v') := ((Only.of_below hb').grown hg (fun k hk => .inl (.inr hk))).setCell (.inl (.inl rfl)) _
  have ho5 : Only (fun k => vg.ownBlock = some k ∨ k = B) W (w5.setCell ⟨B, 0, none⟩ v') := ((Only.refl _ _).grown hg (fun k hk => .inl (.inl hk))).setCell (.inl (.inr rfl)) _
  have hO : ∀ k, (vg.ownBlock = some k ∨ k = B) → ∀ cur, W.heap[k]? ≠ some (.cells cur 3 (0, 0)) := by
    rintro k (hk | rfl) cur e
    · obtain ⟨_, _, c2, hc2⟩ := owns_block (owns_step hct.own hb') hk
      rw [e] at hc2; injection hc2 with h1; injection h1 with _ h2 _; exact absurd h2 (by decide)
    · rw [hb'.block k hBl, hct.box] at e; injection e with h1; injection h1 with _ h2 _; exact absurd h2 (by decide)
  have hen4 : EnCells W base cs lg := hct.en.only (O := fun _ => False) (Only.of_below hb') (fun _ h => h.elim)
  have hv5 := owns_only hv ho5 (fun k hk hok => by obtain ⟨_, _, cur, hc⟩ := owns_block hv hk; exact hO k hok cur hc)
  have hbase : base ≤ w.heap.size := by have := hct.hB; omega
  refine ⟨hbx, ho, ⟨?_, hct.hB, ?_, ?_, ?_⟩, ?_⟩
  · rw [box_set hbx]; rfl
  · have := owns_setCell hown5 (a := ⟨B, 0, none⟩) (owns_box hown5 hbx (by decide)) v'
    simpa using this
  · exact (hen4.only ho5 hO).snoc hd ⟨sb, rfl, hs⟩ (owns_base hv5 hbase)
  · simpa using ht
  · rintro k (hk | ⟨v, hv0, hk⟩)
    · rcases hat k hk with h | h
      · exact .inl h
      · exact .inr (.inr h)
    · rcases List.mem_append.1 hv0 with h | h
      · exact .inr (.inl ⟨v, h, hk⟩)
      · simp at h
        rcases h with rfl | rfl | rfl
        · rw [hd] at hk; cases hk
        · cases hk
        · exact .inr (.inr (owns_block hv hk).1)
set_option maxRecDepth 100000 in
set_option maxHeartbeats 1000000 in
theorem takeLog_any (a : Option Addr) (c : Nat) (ss : List ByteArray) (base B : Nat) (lg : List En) (vg : Value) (cs : List Value) (w : World) (he : Env w) (hct : Cl w base B lg vg cs) (hr : Rd Value.string w a ss) (hne : ss ≠ []) (hcap : ss.length ≤ c) (hn : ss.length ≤ 1000000000) (hs : ∀ s ∈ ss, s.size ≤ 1000000000) :
    Calls Tryz.prog 16 #[.slice a ss.length c, .pointer (some ⟨B, 0, none⟩)] w (TakeLogPost base B lg vg cs (ss.map (·.data.toList)) w) := by
  obtain ⟨ag, cg, rfl⟩ := owns_slice hct.own
  have c0 := cell_of hct.box 0
  simp only [List.getElem?_toArray, List.getElem?_cons_zero] at c0
  obtain ⟨b, o, rfl, hbl, hc⟩ := hr.resolve_left hne
  obtain ⟨x0, r0, rfl⟩ : ∃ x0 r, ss = x0 :: r := by cases ss with | nil => exact absurd rfl hne | cons x r => exact ⟨x, r, rfl⟩
  have q0 : w.cell? ⟨b, o, none⟩ = some (.string x0) := hc 0 x0 rfl
  have htot := hct.total
  have hBl := (Array.getElem?_eq_some_iff.1 hct.box).1
  have HCT := Lib.hid hct
  obtain ⟨ws, hws⟩ : ∃ ws, ws = (x0 :: r0).map (·.data.toList) := ⟨_, rfl⟩
  have HHD : Hid (ws.head? = some x0.data.toList) := Lib.hid (by rw [hws]; rfl)
  have HLW : Hid (ws.length = (x0 :: r0).length) := Lib.hid (by rw [hws]; simp)
  by_cases h3 : 3 ≤ (x0 :: r0).length ∧ lg.length ≠ 200
  · obtain ⟨h3, ht⟩ := h3
    obtain ⟨x1, x2, r, rfl⟩ : ∃ x1 x2 r, r0 = x1 :: x2 :: r := by
      match r0, h3 with
      | x1 :: x2 :: r, _ => exact ⟨x1, x2, r, rfl⟩
      | [], h => simp at h
      | [_], h => simp at h
    have q2 : w.cell? ⟨b, o + 2, none⟩ = some (.string x2) := hc 2 x2 rfl
    have hcut : Rd Value.string w (if c = 3 then some ⟨b, o, none⟩ else some ⟨b, o + 3, none⟩) r := Rd.cut (k := 3) hc hbl hcap
    have hd1 : Rd Value.string w (some ⟨b, o + 1, none⟩) [x1] := .inr ⟨b, o + 1, rfl, hbl, fun j x hj => by
      obtain rfl : j = 0 := by have := (List.getElem?_eq_some_iff.1 hj).1; simpa using this
      obtain rfl : x1 = x := by simpa using hj
      exact hc 1 x1 rfl⟩
    obtain ⟨a3, ha3⟩ : ∃ a3 : Option Addr, (if c = 3 then some (⟨b, o, none⟩ : Addr) else some ⟨b, o + 3, none⟩) = a3 := ⟨_, rfl⟩
    rw [ha3] at hcut
    obtain ⟨n, hnn⟩ : ∃ n, n = (x0 :: x1 :: x2 :: r).length := ⟨_, rfl⟩
    have hnr : n = r.length + 3 := by rw [hnn]; rfl
    rw [← hnn] at hcap hn h3 HLW ⊢
    have hc1 : ¬ c = 1 := by omega
    have htB : ((lg.length : Int) == 200) = false := beq_eq_false_iff_ne.2 (by omega)
    have HN1 : Hid (Calls Tryz.prog 12 #[.slice (some ⟨b, o + 1, none⟩) 1 (c - 1)] w (NumsPost w [x1.data.toList])) := Lib.hid (pnumbers_any _ (c - 1) [x1] w he hd1 (by simp) (fun s h => hs s (by simp at h; simp [h])))
    have HN3 : Hid (∀ W, Below w.heap.size w W → Calls Tryz.prog 12 #[.slice a3 r.length (c - 3)] W (NumsPost W (r.map (·.data.toList)))) := Lib.hid (fun W hW => pnumbers_any _ (c - 3) r W (he.step hW) (hcut.step hW) (by omega) (fun s h => hs s (by simp [h])))
    have HW2 : Hid (ws.getD 1 [] = x1.data.toList ∧ ws.getD 2 [] = x2.data.toList ∧ ws.drop 3 = r.map (·.data.toList)) := Lib.hid (by rw [hws]; exact ⟨rfl, rfl, rfl⟩)
    rw [← hws]
    have HT := Lib.hid ht
    clear hr hc hs hcut hd1 he hct hnn hws ht
    go_enter Tryz.func16, Tryz.ntmps16
    go_wp2_with fail
    · have h68 : x0.toList = [68] := by assumption
      have HT2 : Hid (ws.head? = some [68] ∧ 3 ≤ ws.length ∧ lg.length ≠ 200) := Lib.hid ⟨by rw [HHD.out, ← toList_data, h68], by rw [HLW.out]; omega, HT.out⟩
      have HAN : Hid ((∀ d ns, ¬ (num x1.data.toList = some d ∧ nums (r.map (·.data.toList)) = some ns ∧ isCmd x2.data.toList ns.length = true)) → addLog lg ws = none) := Lib.hid (fun h => by
        unfold addLog; rw [if_pos HT2.out, HW2.out.1, HW2.out.2.1, HW2.out.2.2]
        cases h1 : num x1.data.toList with
        | none => rfl
        | some d =>
          cases h2 : nums (r.map (·.data.toList)) with
          | none => rfl
          | some ns => simp only; rw [if_neg (fun h3 => h d ns ⟨h1, h2, h3⟩)])
      have HAS : Hid (∀ d ns, num x1.data.toList = some d → nums (r.map (·.data.toList)) = some ns → isCmd x2.data.toList ns.length = true → addLog lg ws = some (lg ++ [⟨d, x2.data.toList, ns⟩])) := Lib.hid (fun d ns h1 h2 h3 => by
        unfold addLog; rw [if_pos HT2.out, HW2.out.1, HW2.out.2.1, HW2.out.2.2, h1, h2]; simp only; rw [if_pos h3])
      clear h68 q0
      refine HN1.out.mono ?_
      rintro e w1 ⟨hb1, hp1⟩
      rw [nums_one] at hp1
      have c0 := cell_keep hb1 c0
      have q2 := cell_keep hb1 q2
      have HB1 := Lib.hid hb1
      clear hb1
      cases hd : num x1.data.toList with
      | none =>
        rw [hd] at hp1
        obtain rfl := hp1
        have HA := Lib.hid (HAN.out (fun d ns h => by rw [hd] at h; cases h.1))
        clear hd
        go_wp2_with fail
        refine (HN3.out w1 HB1.out).mono ?_
        rintro e w2 ⟨hb2, hp2⟩
        have HB2 := Lib.hid (below_then HB1.out hb2 (Nat.le_refl _))
        clear hb2
        cases hx : nums (r.map (·.data.toList)) with
        | none =>
          rw [hx] at hp2
          obtain rfl := hp2
          go_wp2
          go_ret
          exact takeLog_none HCT.out HB2.out HA.out rfl
        | some ns =>
          rw [hx] at hp2
          obtain ⟨v, rfl, hv⟩ := hp2
          go_wp2
          go_ret
          exact takeLog_none HCT.out HB2.out HA.out rfl
      | some d =>
        rw [hd] at hp1
        obtain ⟨v1, rfl, hv1⟩ := hp1
        obtain ⟨av1, cv1, rfl⟩ := owns_slice hv1
        obtain ⟨b1, o1, rfl, hd0⟩ : ∃ b1 o1, av1 = some ⟨b1, o1, none⟩ ∧ w1.cell? ⟨b1, o1, none⟩ = some (.int .i64 d) := by
          obtain ⟨a', c', e1, _, _, e2, _⟩ := Rd.of_owns (enc := fun n : Int => Value.int .i64 n) hv1
          cases e1
          obtain ⟨b4, o4, ea, _, hc⟩ := e2.ne (by simp)
          exact ⟨b4, o4, ea, hc 0 d rfl⟩
        have hb1n : w.heap.size ≤ b1 := by
          have := (Rd.of_owns (enc := fun n : Int => Value.int .i64 n) hv1); obtain ⟨a', c', e1, _, _, _, e3⟩ := this; cases e1; exact e3 _ _ _ rfl
        simp only [List.length_singleton]
        have HD := Lib.hid hd
        clear hd hv1
        go_wp2_with fail
        refine (HN3.out w1 HB1.out).mono ?_
        rintro e w2 ⟨hb2, hp2⟩
        have c0 := cell_keep hb2 c0
        have q2 := cell_keep hb2 q2
        have d0 := cell_keep hb2 hd0
        have HB2 := Lib.hid (below_then HB1.out hb2 (Nat.le_refl _))
        have HB12 := Lib.hid hb2
        clear hb2
        cases hx : nums (r.map (·.data.toList)) with
        | none =>
          rw [hx] at hp2
          obtain rfl := hp2
          have HA := Lib.hid (HAN.out (fun d ns h => by rw [hx] at h; cases h.2.1))
          clear hx
          go_wp2
          go_ret
          exact takeLog_none HCT.out HB2.out HA.out rfl
        | some ns =>
          rw [hx] at hp2
          obtain ⟨v, rfl, hv⟩ := hp2
          obtain ⟨av, cv, rfl⟩ := owns_slice hv
          have HV := Lib.hid hv
          have HX := Lib.hid hx
          clear hx hv
          go_wp2_with fail
          refine (known_any x2 av ns.length cv _).mono ?_
          rintro e w3 ⟨rfl, hb3⟩
          have c0 := cell_keep hb3 c0
          have q2 := cell_keep hb3 q2
          have d0 := cell_keep hb3 d0
          have HB3 := Lib.hid (below_then HB2.out hb3 (Nat.le_refl _))
          have HV3 := Lib.hid (owns_step HV.out hb3)
          clear hb3
          cases hk : isCmd x2.data.toList ns.length with
          | false =>
            have HA := Lib.hid (HAN.out (fun d' ns' h => by rw [HX.out] at h; obtain ⟨_, h1, h2⟩ := h; cases h1; rw [hk] at h2; cases h2))
            clear hk
            go_wp2
            go_ret
            exact takeLog_none HCT.out HB3.out HA.out rfl
          | true =>
            have HA := Lib.hid (HAS.out d ns HD.out HX.out hk)
            clear hk
            obtain ⟨i0, hi, hz0, hz1, hz2⟩ := info_parts infoEntry
            have hB3 : B < w3.heap.size := World.block_lt_of_cell? w3 _ c0
            have HBA : Hid (Below w.heap.size w (w3.drew.alloc (.cells #[.int .i64 d, .string x2, .slice av ns.length cv] 62))) := Lib.hid ((HB3.out.drew).alloc HB3.out.size _)
            have hLA := owns_step HCT.out.own HBA.out
            have hnB : (Value.slice ag lg.length cg).ownBlock ≠ some B := owns_box HCT.out.own HCT.out.box (by decide)
            have hbase : base ≤ w3.heap.size := by
              have h1 := (Array.getElem?_eq_some_iff.1 HCT.out.box).1
              have h2 := HCT.out.hB
              have h3 := HB3.out.size
              omega
            have hidx : (2 : Int) < (r.length : Int) + 3 := by omega
            have HVA := Lib.hid (owns_step HV3.out ((Below.refl w3.heap.size w3).drew.alloc (Nat.le_refl _) (.cells #[.int .i64 d, .string x2, .slice av ns.length cv] 62)))
            go_wp2_with fail
            go_region_law
              (first
                | (refine step_append_lies _ (by rfl) _ _ _ (by rfl) base 62 i0 _ 3 48 Tryz.underlying31 hi hz0 hz1 hz2 rfl (by omega) (.slice ag lg.length cg) lg.length cs (by rfl) hLA
                    ⟨w3.heap.size, 0, none⟩ 1 1 [.int .i64 d, .string x2, .slice av ns.length cv] (by rfl) (by rfl) (World.news_of_block (cs := #[.int .i64 d, .string x2, .slice av ns.length cv]) (t := 62) (fr := (0, 0)) (heap_alloc_new w3.drew _)) (by simp [Value.oneCell'])
                    (by omega) (by unfold maxLen; omega) (by omega) (by simp; omega) (w3.heap.size + 1) (by simp) ?_; intro gg cap w5 hown5 hgrow hat hlt; have hbx := box_grown HCT.out.box HBA.out hgrow hnB; have hfr := free_of hbx 0; have hcl : w5.cell? ⟨B, 0, none⟩ = some (.slice ag lg.length cg) := cell_of hbx 0))
            all_goals
              have hfin := cl_add (x := ⟨d, x2.data.toList, ns⟩) HCT.out HBA.out (owns_base HVA.out HB1.out.size) hown5 hgrow rfl rfl (by
                intro k hk
                obtain rfl : gg = k := by simpa [Value.ownBlock] using hk
                exact hat.imp id (fun e => by have := HB3.out.size; omega)) (by have := HT.out; omega)
              have HFIN := Lib.hid hfin.2
              clear hfin hown5 hgrow
              go_wp2
              go_ret
              exact takeLog_some HFIN.out.1 HA.out rfl HFIN.out.2.1 HFIN.out.2.2
    · have h68 : x0.toList ≠ [68] := by
        intro h; simp_all
      have hA : addLog lg ws = none := by unfold addLog; rw [if_neg (fun h => h68 (by rw [toList_data]; have := h.1; rw [HHD.out] at this; simpa using this))]
      go_ret
      exact takeLog_none HCT.out (Below.refl _ _) hA rfl
  · have HA : Hid (addLog lg ws = none) := Lib.hid (by unfold addLog; rw [if_neg (fun h => h3 ⟨by have := h.2.1; rw [HLW.out] at this; exact this, h.2.2⟩)])
    have h3' : (x0 :: r0).length < 3 ∨ lg.length = 200 := by omega
    rw [← hws]
    by_cases ht : lg.length = 200
    · have htB : ((lg.length : Int) == 200) = true := beq_iff_eq.2 (by omega)
      clear hr hc hs he hct hws h3 h3' ht
      go_enter Tryz.func16, Tryz.ntmps16
      go_wp2
      all_goals
        go_ret
        exact takeLog_none HCT.out (Below.refl _ _) HA.out rfl
    · have hl : (r0.length : Int) + 1 < 3 := by simp only [List.length_cons] at h3'; omega
      clear hr hc hs he hct hws h3 h3' ht
      go_enter Tryz.func16, Tryz.ntmps16
      go_wp2
      all_goals
        go_ret
        exact takeLog_none HCT.out (Below.refl _ _) HA.out rfl
end Go.Proofs.YtjamdppihpeijaaGreatDoor
