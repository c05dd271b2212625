/- The reference's 'add' in a log; there are fewer lines than memory has places. -/
import Derived.Test.YtjamdppihpeijaaGreatDoorRefAcc
namespace Go.Proofs.YtjamdppihpeijaaGreatDoor
open Go.RowKit

structure Lg (w : World) (base B : Nat) (lg : List En) (vg : Value) : Prop where
  box : w.heap[B]? = some (.cells #[.slice none 0 0, .slice none 0 0, vg, .bool true] 57 (0, 0))
  hB : base ≤ B
  log : ∃ cs, w.ownsRow base 62 3 vg lg.length cs ∧ EnCells w base cs lg
  total : lg.length ≤ 200
def AddLogPost (base B : Nat) (lg : List En) (vg : Value) (ws : List (List UInt8)) (w : World) (e : Ending) (w' : World) : Prop :=
  Only (fun k => k = B ∨ vg.ownBlock = some k) w w' ∧
  match addLog lg ws with
  | none => e = .returned (.bool false)
  | some lg' => e = .returned (.bool true) ∧ ∃ vg', Lg w' base B lg' vg' ∧ ∀ k, vg'.ownBlock = some k → vg.ownBlock = some k ∨ w.heap.size ≤ k
theorem addLog_none {base B : Nat} {lg : List En} {vg : Value} {ws : List (List UInt8)} {w : World} {e : Ending} {w' : World} (ho : Only (fun k => k = B ∨ vg.ownBlock = some k) w w') (h : addLog lg ws = none) (he : e = .returned (.bool false)) : AddLogPost base B lg vg ws w e w' := by
  refine ⟨ho, ?_⟩; rw [h]; exact he
theorem addLog_some {base B : Nat} {lg lg' : List En} {vg vg' : Value} {ws : List (List UInt8)} {w : World} {e : Ending} {w' : World} (ho : Only (fun k => k = B ∨ vg.ownBlock = some k) w w') (h : addLog lg ws = some lg') (he : e = .returned (.bool true))
    (hc : Lg w' base B lg' vg') (hn : ∀ k, vg'.ownBlock = some k → vg.ownBlock = some k ∨ w.heap.size ≤ k) : AddLogPost base B lg vg ws w e w' := by
  refine ⟨ho, ?_⟩; rw [h]; exact ⟨he, vg', hc, hn⟩

theorem lg_add {w w4 w5 : World} {base B : Nat} {lg : List En} {vg v' a' : Value} {cs : List Value} {x : En} {d : Value} {sb : ByteArray} {o : Obj}
    (hct : Lg w base B lg vg) (hb : Below w.heap.size w w4) (hown4 : w4.ownsRow base 62 3 vg lg.length cs) (hen : EnCells w base cs lg) (hv : w4.ownsRow base 3 1 a' x.args.length (x.args.map fun n => Value.int .i64 n))
    (hown5 : w5.ownsRow base 62 3 v' (lg.length + 1) (cs ++ [d, .string sb, a'])) (hg : (w4.alloc o).grownBy w5 vg.ownBlock) (hd : d = .int .i64 x.day) (hs : sb.data.toList = x.word) (hat : ∀ k, v'.ownBlock = some k → vg.ownBlock = some k ∨ w.heap.size ≤ k) (ht : lg.length + 1 ≤ 200) :
    w5.heap[B]? = some (.cells #[.slice none 0 0, .slice none 0 0, vg, .bool true] 57 (0, 0)) ∧
    Only (fun k => k = B ∨ vg.ownBlock = some k) w (w5.setCell ⟨B, 2, none⟩ v') ∧ Lg (w5.setCell ⟨B, 2, none⟩ v') base B (lg ++ [x]) v' ∧ ∀ k, v'.ownBlock = some k → vg.ownBlock = some k ∨ w.heap.size ≤ k := by
  have hb' : Below w.heap.size w (w4.alloc o) := hb.alloc hb.size o
  obtain ⟨cs0, hown0, _⟩ := hct.log
  have hbx := box_grown hct.box hb' hg (owns_box hown0 hct.box (by decide))
  have ho : Only (fun k => k = B ∨ vg.ownBlock = some k) w (w5.setCell ⟨B, 2, none⟩ v') := ((Only.of_below hb').grown hg (fun k hk => .inl (.inr hk))).setCell (.inl (.inl rfl)) _
  have ho5 : Only (fun k => vg.ownBlock = some k ∨ k = B) (w4.alloc o) (w5.setCell ⟨B, 2, none⟩ v') := ((Only.refl _ _).grown hg (fun k hk => .inl (.inl hk))).setCell (.inl (.inr rfl)) _
  have hO : ∀ k, (vg.ownBlock = some k ∨ k = B) → ∀ cur, (w4.alloc o).heap[k]? ≠ some (.cells cur 3 (0, 0)) := by
    rintro k (hk | rfl) cur e
    · obtain ⟨_, _, c2, hc2⟩ := owns_block (hown4.alloc o) hk
      rw [e] at hc2; injection hc2 with h1; injection h1 with _ h2 _; exact absurd h2 (by decide)
    · have hBl := (Array.getElem?_eq_some_iff.1 hct.box).1
      rw [hb'.block k hBl, hct.box] at e; injection e with h1; injection h1 with _ h2 _; exact absurd h2 (by decide)
  have hen4 : EnCells (w4.alloc o) base cs lg := hen.only (O := fun _ => False) (Only.of_below hb') (fun _ h => h.elim)
  have hv4 := hv.alloc o
  have hv5 := owns_only hv4 ho5 (fun k hk hok => by obtain ⟨_, _, cur, hc⟩ := owns_block hv4 hk; exact hO k hok cur hc)
  refine ⟨hbx, ho, ⟨?_, hct.hB, ⟨cs ++ [d, .string sb, a'], ?_, ?_⟩, ?_⟩, ?_⟩
  · rw [box_set hbx]; rfl
  · have := owns_setCell hown5 (a := ⟨B, 2, none⟩) (owns_box hown5 hbx (by decide)) v'
    simpa using this
  · exact (hen4.only ho5 hO).snoc hd ⟨sb, rfl, hs⟩ hv5
  · simpa using ht
  · exact hat
theorem owns_base {w : World} {b1 b2 : Nat} {e : TypeId} {size : Nat} {v : Value} {n : Nat} {xs : List Value} (h : w.ownsRow b1 e size v n xs) (hb : b2 ≤ b1) : w.ownsRow b2 e size v n xs :=
  ⟨h.1, h.2.imp id fun ⟨g, cap, cur, h1, h2, h3⟩ => ⟨g, cap, cur, h1, Nat.le_trans hb h2, h3⟩⟩
set_option maxRecDepth 100000 in
set_option maxHeartbeats 1000000 in
theorem radd_log (s : ByteArray) (a : Option Addr) (c : Nat) (ms : List (Nat × Nat)) (base B : Nat) (lg : List En) (vg : Value) (w : World) (hct : Lg w base B lg vg) (hr : RdM w a ms) (hne : ms ≠ []) (hm : ∀ m ∈ ms, m.1 ≤ m.2 ∧ m.2 ≤ s.size) (hs : s.size ≤ 1000000000) (hn : ms.length ≤ 1000000001) :
    Calls Tryz.prog 34 #[.pointer (some ⟨B, 0, none⟩), .string s, .slice a ms.length c] w (AddLogPost base B lg vg (ms.map (sub s.data.toList)) w) := by
  obtain ⟨cs, hown, hen⟩ := hct.log
  obtain ⟨ag, cg, rfl⟩ := owns_slice hown
  have c0 := cell_of hct.box 0
  have c1 := cell_of hct.box 1
  have c2 := cell_of hct.box 2
  have c3 := cell_of hct.box 3
  simp only [List.getElem?_toArray, List.getElem?_cons_zero, List.getElem?_cons_succ] at c0 c1 c2 c3
  have HCT := Lib.hid hct
  have HOWN := Lib.hid hown
  have HEN := Lib.hid hen
  have HR := Lib.hid hr
  have HMS := Lib.hid hm
  obtain ⟨b, o, rfl, hbl, hc⟩ := hr.resolve_left hne
  obtain ⟨m0, hm0⟩ : ∃ m, ms[0]? = some m := by cases ms with | nil => exact absurd rfl hne | cons x _ => exact ⟨x, rfl⟩
  have q0 := (hc 0 m0 hm0).1
  have q1 := (hc 0 m0 hm0).2
  obtain ⟨hb1, hb2⟩ := hm m0 (List.mem_of_getElem? hm0)
  rw [Nat.zero_mul, Nat.add_zero] at q0 q1
  have hlen : 0 < ms.length := by cases ms with | nil => exact absurd rfl hne | cons _ _ => simp
  have HM0 := Lib.hid hm0
  have HCC := Lib.hid hc
  clear hct hr hm hc hm0 hne hown hen
  obtain ⟨ws, hws⟩ : ∃ ws, ws = ms.map (sub s.data.toList) := ⟨_, rfl⟩
  obtain ⟨x0, hx0⟩ : ∃ x0 : ByteArray, x0 = s.extract m0.1 m0.2 := ⟨_, rfl⟩
  have HHD : Hid (ws.head? = some x0.data.toList) := Lib.hid (by rw [hws, hx0, bytes_extract, List.head?_eq_getElem?, List.getElem?_map, HM0.out]; rfl)
  have HWL : Hid (ws.length = ms.length) := Lib.hid (by rw [hws, List.length_map])
  have HWS := Lib.hid hws
  rw [← hws]
  have HX0 := Lib.hid hx0
  clear hws hx0
  go_enter Tryz.func34, Tryz.ntmps34
  go_wp2
  go_quiet (fail)
  rw [← HX0.out]
  go_wp2_with fail
  · have h68 : x0.toList = [68] := by assumption
    have h3 : 3 ≤ (ms.length : Int) := by assumption
    have HD0 : Hid (ws.head? = some [68]) := Lib.hid (by rw [HHD.out, ← toList_data, h68])
    have HLEN := Lib.hid (show 3 ≤ ms.length by omega)
    have htot := HCT.out.total
    refine (rcount_any B 0 0 lg.length 0 0 cg none none ag (w.drewN nq) c0 c1 c2 (by omega) (by omega) (by omega)).mono ?_
    rintro e w2 ⟨rfl, q2, hW2⟩
    have hwc : ∀ ad, w2.cell? ad = w.cell? ad := fun ad => by rw [hW2]; rfl
    have HB2 : Hid (Below w.heap.size w w2) := Lib.hid (by rw [hW2]; exact (below_drewN _ _ _).trans (below_drewN _ _ _))
    clear hW2
    obtain ⟨m1, hm1⟩ : ∃ m, ms[1]? = some m := ⟨ms[1]'(by omega), by rw [List.getElem?_eq_getElem]⟩
    obtain ⟨m2, hm2⟩ : ∃ m, ms[2]? = some m := ⟨ms[2]'(by omega), by rw [List.getElem?_eq_getElem]⟩
    by_cases ht : lg.length = 200
    · have htB : ((lg.length : Int) == 200) = true := beq_iff_eq.2 (by omega)
      have hA : addLog lg ws = none := by unfold addLog; rw [if_neg (fun h => h.2.2 ht)]
      have HA := Lib.hid hA
      clear hm1 hm2 ht hA htot
      go_wp2
      go_ret
      exact addLog_none (Only.of_below HB2.out) HA.out rfl
    · have htB : ((lg.length : Int) == 200) = false := beq_eq_false_iff_ne.2 (by omega)
      have HT := Lib.hid (show ws.head? = some [68] ∧ 3 ≤ ws.length ∧ lg.length ≠ 200 from ⟨HD0.out, by rw [HWL.out]; exact HLEN.out, ht⟩)
      have r0 : w2.cell? ⟨b, o + 2, none⟩ = some (.int .i64 m1.1) := (hwc _).trans (HCC.out 1 m1 hm1).1
      have r1 : w2.cell? ⟨b, o + 3, none⟩ = some (.int .i64 m1.2) := (hwc _).trans (HCC.out 1 m1 hm1).2
      have r1' : w2.cell? ⟨b, o + 2 + 1, none⟩ = some (.int .i64 m1.2) := (hwc _).trans (HCC.out 1 m1 hm1).2
      have t1' : w2.cell? ⟨b, o + 4 + 1, none⟩ = some (.int .i64 m2.2) := (hwc _).trans (HCC.out 2 m2 hm2).2
      have t0 : w2.cell? ⟨b, o + 4, none⟩ = some (.int .i64 m2.1) := (hwc _).trans (HCC.out 2 m2 hm2).1
      have t1 : w2.cell? ⟨b, o + 5, none⟩ = some (.int .i64 m2.2) := (hwc _).trans (HCC.out 2 m2 hm2).2
      obtain ⟨hm11, hm12⟩ := HMS.out m1 (List.mem_of_getElem? hm1)
      obtain ⟨hm21, hm22⟩ := HMS.out m2 (List.mem_of_getElem? hm2)
      have hsz1 : (s.extract m1.1 m1.2).size ≤ 1000000000 := by rw [ByteArray.size_extract]; omega
      obtain ⟨u1, hu1⟩ : ∃ u, u = ws.getD 1 [] := ⟨_, rfl⟩
      obtain ⟨u2, hu2⟩ : ∃ u, u = ws.getD 2 [] := ⟨_, rfl⟩
      have hval : ∀ W : World, Calls Tryz.prog 31 #[.string (s.extract m1.1 m1.2)] W fun e W' => e = .returned (.tuple #[.int .i64 (valN u1), .bool (num u1).isSome]) ∧ W' = W := fun W =>
        (value_any (s.extract m1.1 m1.2) W hsz1).mono fun e W' h => by
          have e1 : u1 = sub s.data.toList m1 := by rw [hu1, HWS.out, List.getD_eq_getElem?_getD, List.getElem?_map, hm1]; rfl
          rw [bytes_extract, ← e1] at h; exact ⟨h.1, h.2.symm⟩
      have HVAL := Lib.hid hval
      have HX2 : Hid ((s.extract m2.1 m2.2).data.toList = u2) := Lib.hid (by rw [bytes_extract, hu2, HWS.out, List.getD_eq_getElem?_getD, List.getElem?_map, hm2]; rfl)
      have hl1 : 1 < ms.length := by have := HLEN.out; omega
      have hl2 : 2 < ms.length := by have := HLEN.out; omega
      have hl1' : (1 : Int) < ms.length := by omega
      have hl2' : (2 : Int) < ms.length := by omega
      have HU1 := Lib.hid hu1
      have HU2 := Lib.hid hu2
      clear hm1 hm2 ht htot hval hsz1 h3 hwc hu1 hu2
      go_wp2_with fail
      go_quiet ((go_at_call 31; exact Calls.quiet_of_same (HVAL.out _)))
      have h1ms : 3 ≤ ms.length := HLEN.out
      go_wp2_with fail
      refine (rnumbers_any s _ c ms 3 (w2.drewN nq) ((HR.out.step HB2.out).step (below_drewN _ _ _)) h1ms HMS.out hs hn).mono ?_
      rintro e w3 ⟨hb3, hp⟩
      rw [← HWS.out] at hp
      have hB23 := (below_drewN w2.heap.size w2 nq).trans hb3
      have HB3 : Hid (Below w.heap.size w w3) := Lib.hid (below_then HB2.out hB23 (Nat.le_refl _))
      have t0 : w3.cell? ⟨b, o + 4, none⟩ = some (.int .i64 m2.1) := (hB23.cell (p := ⟨b, o + 4, none⟩) (Nat.lt_of_lt_of_le hbl HB2.out.size)).trans t0
      have t1 : w3.cell? ⟨b, o + 5, none⟩ = some (.int .i64 m2.2) := (hB23.cell (p := ⟨b, o + 5, none⟩) (Nat.lt_of_lt_of_le hbl HB2.out.size)).trans t1
      clear hb3 hB23
      have HAN : Hid ((∀ d ns, ¬ (num u1 = some d ∧ nums (ws.drop 3) = some ns ∧ isCmd u2 ns.length = true)) → addLog lg ws = none) := Lib.hid (fun h => by
        unfold addLog; rw [if_pos HT.out, ← HU1.out, ← HU2.out]
        cases h1 : num u1 with
        | none => rfl
        | some d =>
          cases h2 : nums (ws.drop 3) with
          | none => rfl
          | some ns => simp only; rw [if_neg (fun h3 => h d ns ⟨h1, h2, h3⟩)])
      cases hx : nums (ws.drop 3) with
      | none =>
        rw [hx] at hp
        obtain rfl := hp
        have HX := Lib.hid hx
        clear hx
        go_wp2_with fail
        go_quiet (fail)
        cases hd : num u1 with
        | none =>
          simp only [Option.isSome_none]
          have HA := Lib.hid (HAN.out (fun d ns h => by rw [hd] at h; cases h.1))
          clear hd
          go_wp2
          go_ret
          exact addLog_none (Only.of_below (HB3.out.trans (below_drewN _ _ _))) HA.out rfl
        | some d =>
          simp only [Option.isSome_some]
          have HA := Lib.hid (HAN.out (fun d ns h => by rw [HX.out] at h; cases h.2.1))
          clear hd
          go_wp2
          go_ret
          exact addLog_none (Only.of_below (HB3.out.trans (below_drewN _ _ _))) HA.out rfl
      | some ns =>
        rw [hx] at hp
        obtain ⟨v, rfl, hv⟩ := hp
        obtain ⟨av, cv, rfl⟩ := owns_slice hv
        have HV := Lib.hid hv
        have HX := Lib.hid hx
        clear hx hv
        go_wp2_with fail
        go_quiet (fail)
        cases hd : num u1 with
        | none =>
          simp only [Option.isSome_none]
          have HA := Lib.hid (HAN.out (fun d ns h => by rw [hd] at h; cases h.1))
          clear hd
          go_wp2
          go_ret
          exact addLog_none (Only.of_below (HB3.out.trans (below_drewN _ _ _))) HA.out rfl
        | some d =>
          have hvd := valN_num hd
          rw [hvd]
          simp only [Option.isSome_some]
          have HD := Lib.hid hd
          clear hd hvd
          go_wp2_with fail
          refine (command_any _ av ns.length cv _).mono ?_
          rintro e w4 ⟨rfl, hb4⟩
          rw [HX2.out]
          have HB4 : Hid (Below w.heap.size w w4) := Lib.hid (below_then (HB3.out.trans (below_drewN _ _ _)) hb4 (Nat.le_refl _))
          have HV4 : Hid (w4.ownsRow base 3 1 (.slice av ns.length cv) ns.length (ns.map fun n => Value.int .i64 n)) := Lib.hid (owns_base (owns_step (owns_step HV.out (below_drewN _ _ _)) hb4) (by
            have h1 := (Array.getElem?_eq_some_iff.1 HCT.out.box).1
            have h2 := HCT.out.hB
            have h3 := HB2.out.size
            show base ≤ w2.heap.size
            omega))
          clear hb4
          cases hc : isCmd u2 ns.length with
          | false =>
            have HA := Lib.hid (HAN.out (fun d ns' h => by rw [HX.out] at h; cases h.2.1; rw [hc] at h; cases h.2.2))
            clear hc
            go_wp2
            go_ret
            exact addLog_none (Only.of_below HB4.out) HA.out rfl
          | true =>
            have HA := Lib.hid (show addLog lg ws = some (lg ++ [⟨d, u2, ns⟩]) by
              unfold addLog; rw [if_pos HT.out, ← HU1.out, ← HU2.out, HD.out, HX.out]; simp only; rw [if_pos hc])
            clear hc
            have hbx4 : w4.heap[B]? = some (.cells #[.slice none 0 0, .slice none 0 0, .slice ag lg.length cg, .bool true] 57 (0, 0)) := (HB4.out.block B (Array.getElem?_eq_some_iff.1 HCT.out.box).1).trans HCT.out.box
            have g2 : w4.cell? ⟨B, 2, none⟩ = some (.slice ag lg.length cg) := cell_of hbx4 2
            have hBl4 : B < w4.heap.size := (Array.getElem?_eq_some_iff.1 hbx4).1
            have hbase : base ≤ w4.heap.size := by have := HCT.out.hB; omega
            have HBX := Lib.hid hbx4
            have hown4 := owns_step HOWN.out HB4.out
            have htl := HCT.out.total
            obtain ⟨i0, hi, hz0, hz1, hz2⟩ := info_parts infoEntry
            clear hbx4
            go_wp2_with (at_builtin; refine wpList_append_lies _ rfl _ _ 31 rfl base 62 i0 (.agg #[.int .i64 0, .string ⟨#[]⟩, .slice none 0 0]) 3 48 Tryz.underlying31 hi hz0 hz1 hz2 rfl (by decide) (.slice ag lg.length cg) lg.length cs rfl (hown4.alloc _) ⟨w4.heap.size, 0, none⟩ 1 1 [.int .i64 d, .string (s.extract m2.1 m2.2), .slice av ns.length cv] rfl rfl ?c1 ?c2 (by decide) ?c3 ?c4 ?c5 (w4.heap.size + 1) (by simp) ?_)
            case c1 => exact World.news_of_block (cs := #[.int .i64 d, .string (s.extract m2.1 m2.2), .slice av ns.length cv]) (t := 62) (fr := (0, 0)) (heap_alloc_new w4 _)
            case c2 => simp [Value.oneCell']
            case c3 => unfold maxLen; omega
            case c4 => omega
            case c5 => simp; omega
            intro gg cap w5 hown5 hgrow hat hlt
            have hfin := lg_add (x := ⟨d, u2, ns⟩) HCT.out HB4.out hown4 HEN.out HV4.out hown5 hgrow rfl HX2.out (by
              intro k hk
              obtain rfl : gg = k := by simpa [Value.ownBlock] using hk
              exact hat.imp id (fun e => by have := HB4.out.size; omega)) (by have := HT.out.2.2; omega)
            have g5 : w5.cell? ⟨B, 2, none⟩ = some (.slice ag lg.length cg) := cell_of hfin.1 2
            have f5 := free_of hfin.1 2
            have HFIN := Lib.hid hfin.2
            clear hfin hown5 hgrow hown4
            go_wp2
            go_ret
            exact addLog_some HFIN.out.1 HA.out rfl HFIN.out.2.1 HFIN.out.2.2
  · have h3 : (ms.length : Int) < 3 := by assumption
    have hA : addLog lg ws = none := by unfold addLog; rw [if_neg (fun h => by have := h.2.1; rw [HWL.out] at this; omega)]
    go_ret
    exact addLog_none (Only.of_below (below_drewN _ _ _)) hA rfl
  · have h68 : ¬ x0.toList = [68] := by assumption
    have hA : addLog lg ws = none := by unfold addLog; rw [if_neg (fun h => h68 (by rw [toList_data]; have := h.1; rw [HHD.out] at this; simpa using this))]
    go_ret
    exact addLog_none (Only.of_below (below_drewN _ _ _)) hA rfl
end Go.Proofs.YtjamdppihpeijaaGreatDoor
