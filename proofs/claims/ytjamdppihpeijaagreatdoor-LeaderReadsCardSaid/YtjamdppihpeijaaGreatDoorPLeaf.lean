/- The program's small functions of layer 10: 'from', 'written', 'numbers' return what plain Lean functions give, in every world with the library's variables laid. -/
import Derived.Test.YtjamdppihpeijaaGreatDoorRd
namespace Go.Proofs.YtjamdppihpeijaaGreatDoor
open Go.RowKit Go.Shelf

theorem from1_pred (lo hi : Int) (w : World) :
    PredAt Tryz.prog 44 #[.pointer (some ⟨w.heap.size, 0, none⟩), .pointer (some ⟨w.heap.size + 1, 0, none⟩)] (fun n : Int => Value.int .i64 n) (fun n => decide (n < lo) || decide (hi < n))
      ((w.alloc (.cells #[.int .i64 lo] 3)).alloc (.cells #[.int .i64 hi] 3)) := by
  intro W n hb
  have hlo : W.cell? ⟨w.heap.size, 0, none⟩ = some (.int .i64 lo) := (hb.cell (p := ⟨w.heap.size, 0, none⟩) (by simp; omega)).trans (by simp [go_sem])
  have hhi : W.cell? ⟨w.heap.size + 1, 0, none⟩ = some (.int .i64 hi) := (hb.cell (p := ⟨w.heap.size + 1, 0, none⟩) (by simp)).trans (by simp [go_sem])
  unfold FnGives
  by_cases h1 : n < lo
  · go_enter Tryz.func44, Tryz.ntmps44
    go_wp2
    go_ret
    exact ⟨by simp [h1], 0, rfl⟩
  · by_cases h2 : hi < n
    · go_enter Tryz.func44, Tryz.ntmps44
      go_wp2
      go_ret
      exact ⟨by simp, 0, rfl⟩
    · go_enter Tryz.func44, Tryz.ntmps44
      go_wp2
      go_ret
      exact ⟨by simp [h1, h2], 0, rfl⟩

def allIn (lo hi : Int) (ns : List Int) : Bool := ns.all fun n => decide (lo ≤ n) && decide (n ≤ hi)
theorem allIn_eq (lo hi : Int) (ns : List Int) : (!(ns.any fun n => decide (n < lo) || decide (hi < n))) = allIn lo hi ns := by
  unfold allIn
  rw [List.not_any_eq_all_not]
  congr 1; funext n
  by_cases h1 : n < lo <;> by_cases h2 : hi < n <;> simp [h1, h2] <;> omega

theorem from_any (lo hi : Int) (a : Option Addr) (c : Nat) (ns : List Int) (w : World) (hr : Rd (fun n : Int => Value.int .i64 n) w a ns) (hn : ns.length ≤ 9223372036854775807) :
    Calls Tryz.prog 29 #[.int .i64 lo, .int .i64 hi, .slice a ns.length c] w fun e w' => e = .returned (.bool (allIn lo hi ns)) ∧ Below w.heap.size w w' := by
  have hcall : Calls Tryz.prog 43 #[.slice a ns.length c, .func (.func 44) #[] #[.pointer (some ⟨w.heap.size, 0, none⟩), .pointer (some ⟨w.heap.size + 1, 0, none⟩)]]
      ((w.alloc (.cells #[.int .i64 lo] 3)).alloc (.cells #[.int .i64 hi] 3)) fun e w' => e = .returned (.bool (ns.any fun n => decide (n < lo) || decide (hi < n))) ∧ ∃ q, w' = ((w.alloc (.cells #[.int .i64 lo] 3)).alloc (.cells #[.int .i64 hi] 3)).drewN q := by
    by_cases h0 : ns = []
    · subst h0
      refine (Tryz.slices_ContainsFunc_empty (α := Int) a c _ _).mono ?_
      rintro e w' ⟨rfl, rfl⟩
      exact ⟨rfl, 0, rfl⟩
    · obtain ⟨b, o, rfl, hl, hc⟩ := hr.ne h0
      have hB : Below w.heap.size w ((w.alloc (.cells #[.int .i64 lo] 3)).alloc (.cells #[.int .i64 hi] 3)) := ((Below.refl _ _).alloc (Nat.le_refl _) _).alloc (by simp) _
      refine (Tryz.slices_ContainsFunc (fun n : Int => Value.int .i64 n) _ 44 _ (enters_of Tryz.func44 (by kernel_rfl) rfl) b o ns.length c ns _ (from1_pred lo hi w) (Nat.le_refl _) hn (fun j hj => ?_)).mono ?_
      · refine (hB.cell (p := ⟨b, o + j, none⟩) hl).trans ?_
        rw [hc j ns[j] (by simp [hj])]
        simp [hj]
      · rintro e w' ⟨rfl, q, rfl⟩
        exact ⟨by simp, q, rfl⟩
  have H := Lib.hid hcall
  clear hcall hr
  have hmf : ∀ (fn : Fn) (first cap : Array Value) (w : World), (Instr.makeFunc fn first cap).run Tryz.prog w = .ok (.func fn first cap) w := fun _ _ _ _ => rfl
  go_enter Tryz.func29, Tryz.ntmps29
  go_wp2_with fail
  refine H.out.mono ?_
  rintro e w' ⟨rfl, q, rfl⟩
  go_wp2
  go_ret
  refine ⟨by rw [← allIn_eq]; rfl, ?_⟩
  exact (((Below.refl _ _).alloc (Nat.le_refl _) _).alloc (by simp) _).trans ((below_drewN _ _ _))

theorem written_any (a : Option Addr) (c : Nat) (ns : List Int) (w : World) (hr : Rd (fun n : Int => Value.int .i64 n) w a ns) (hn : ns.length ≤ 9223372036854775807) :
    Calls Tryz.prog 26 #[.slice a ns.length c] w fun e w' => e = .returned (.bool (allIn (-maxSaid) maxSaid ns)) ∧ Below w.heap.size w w' := by
  have H := Lib.hid (from_any (-1000000000000) 1000000000000 a c ns w hr hn)
  clear hr
  go_enter Tryz.func26, Tryz.ntmps26
  go_wp2_with fail
  refine H.out.mono ?_
  rintro e w' ⟨rfl, hb⟩
  go_wp2
  go_ret
  exact ⟨rfl, hb⟩

/-! numbers -/
theorem nums_append : ∀ (a b : List (List UInt8)), nums (a ++ b) = (nums a).bind fun x => (nums b).map (x ++ ·)
  | [], b => by simp [nums]
  | x :: r, b => by
    have ih := nums_append r b
    simp only [List.cons_append, nums]
    cases num x with
    | none => rfl
    | some n => simp only [ih]; cases nums r <;> simp [Function.comp_def]
theorem nums_one (x : List UInt8) : nums [x] = (num x).map fun n => [n] := by simp only [nums]; cases num x <;> rfl
theorem nums_take_none {l : List (List UInt8)} {k : Nat} {x : List UInt8} (hx : l[k]? = some x) (h : num x = none) : nums l = none := by
  have hk := (List.getElem?_eq_some_iff.1 hx)
  obtain ⟨hlt, e⟩ := hk
  have hd : l = l.take k ++ ([x] ++ l.drop (k + 1)) := by
    rw [← e]; simp
  rw [hd, nums_append, nums_append, nums_one, h]
  cases nums (l.take k) <;> rfl
theorem nums_take_succ {l : List (List UInt8)} {k : Nat} {x : List UInt8} {ns : List Int} {n : Int} (hk : nums (l.take k) = some ns) (hx : l[k]? = some x) (h : num x = some n) : nums (l.take (k + 1)) = some (ns ++ [n]) := by
  rw [List.take_add_one, hx, nums_append, hk]
  show Option.map _ (nums [x]) = _
  rw [nums_one, h]; rfl

def NumsPost (w : World) (bs : List (List UInt8)) (e : Ending) (w' : World) : Prop :=
  Below w.heap.size w w' ∧ match nums bs with
    | none => e = .returned (.tuple #[.slice none 0 0, .bool false])
    | some ns => ∃ v, e = .returned (.tuple #[v, .bool true]) ∧ w'.ownsRow w.heap.size 3 1 v ns.length (ns.map fun n => Value.int .i64 n)
theorem numsPost_none {w : World} {bs : List (List UInt8)} {w' : World} {e : Ending} (hb : Below w.heap.size w w') (h : nums bs = none) (he : e = .returned (.tuple #[.slice none 0 0, .bool false])) : NumsPost w bs e w' := by
  refine ⟨hb, ?_⟩; rw [h]; exact he
theorem numsPost_some {w : World} {bs : List (List UInt8)} {w' : World} {e : Ending} {ns : List Int} {v : Value} (hb : Below w.heap.size w w') (h : nums bs = some ns) (he : e = .returned (.tuple #[v, .bool true]))
    (ho : w'.ownsRow w.heap.size 3 1 v ns.length (ns.map fun n => Value.int .i64 n)) : NumsPost w bs e w' := by
  refine ⟨hb, ?_⟩; rw [h]; exact ⟨v, he, ho⟩

set_option maxHeartbeats 400000 in
theorem pnumbers_any (a : Option Addr) (c : Nat) (ss : List ByteArray) (w : World) (he : Env w) (hr : Rd Value.string w a ss) (hn : ss.length ≤ 1000000000) (hs : ∀ s ∈ ss, s.size ≤ 1000000000) :
    Calls Tryz.prog 12 #[.slice a ss.length c] w (NumsPost w (ss.map (·.data.toList))) := by
  have HE := Lib.hid he
  have HR := Lib.hid hr
  have HS := Lib.hid hs
  clear he hr hs
  obtain ⟨i0, hi, hz0, hz1, hz2⟩ := info_parts infoInt
  go_enter Tryz.func12, Tryz.ntmps12
  go_wp2
  go_loopw [4, 12] (fun v i wr => ∃ (k : Nat) (ns : List Int), k ≤ ss.length ∧ i = .int .i64 k ∧ nums ((ss.map (·.data.toList)).take k) = some ns ∧ wr.ownsRow w.heap.size 3 1 v ns.length (ns.map fun n => Value.int .i64 n) ∧ ns.length = k ∧ Below w.heap.size w wr) (fun _ i _ => ss.length - (intOf i).toNat)
  case atStart =>
    exact ⟨0, [], Nat.zero_le _, rfl, rfl, World.ownsRow_made w #[] 0 (Nat.le_refl _) (by unfold maxLen; omega) rfl, rfl, (Below.refl _ _).alloc (Nat.le_refl _) _⟩
  case round =>
    obtain ⟨k, ns, hk, rfl, hnum, hown, hlen, hb⟩ := hrel
    have HNUM := Lib.hid hnum
    have HLEN := Lib.hid hlen
    have HOWN := Lib.hid hown
    clear hnum hlen hown
    by_cases hlt : k < ss.length
    · obtain ⟨b, o, rfl, hbl, hc⟩ := HR.out.ne (by intro e; subst e; simp at hlt)
      obtain ⟨x, hx⟩ : ∃ x, ss[k]? = some x := ⟨ss[k], by simp [hlt]⟩
      have hcell : wr.cell? ⟨b, o + k, none⟩ = some (.string x) := (hb.cell (p := ⟨b, o + k, none⟩) hbl).trans (hc k x hx)
      have HX := Lib.hid hx
      have hsz : x.size ≤ 1000000000 := HS.out x (List.mem_of_getElem? hx)
      have HXB : Hid ((ss.map (·.data.toList))[k]? = some x.data.toList) := Lib.hid (by rw [List.getElem?_map, hx]; rfl)
      clear hc hx
      have HEr := Lib.hid (HE.out.below hb HE.out.size)
      have num_bad : (∀ n, Lib.atoiAll x.data.toList ≠ .ok n) → num x.data.toList = none := by
        intro h; unfold num; split
        · rename_i n hh; exact absurd hh (h n)
        · rfl
      by_cases hok : ∃ n, Lib.atoiAll x.data.toList = .ok n
      · obtain ⟨n, hn1⟩ := hok
        have HN1 := Lib.hid hn1
        clear num_bad hn1
        have hnum : num x.data.toList = if -maxSaid ≤ n ∧ n ≤ maxSaid ∧ Lib.itoa n = x.data.toList then some n else none := by unfold num; rw [HN1.out]
        have HNUM2 := Lib.hid hnum
        have hnb := Lib.atoiAll_bounds HN1.out
        clear hnum
        go_wp2_with fail
        refine (atoi_ok x _ n (by omega) HN1.out).mono ?_
        rintro e w1 ⟨rfl, hb1⟩
        have HB1 := Lib.hid hb1
        have HBT := Lib.hid (hb.trans (hb1.mono hb.size))
        clear hb hb1
        go_wp2_with fail
        refine (written_any _ _ [n] _ (rd_one (fun n : Int => Value.int .i64 n) w1 n 3) (by simp)).mono ?_
        rintro e w2 ⟨rfl, hb2⟩
        have HBr2 := Lib.hid (below_then HB1.out (below_then (below_alloc w1 _) hb2 (Nat.le_refl _)) (Nat.le_refl _))
        have HB2 := Lib.hid (below_then HBT.out (below_then (below_alloc w1 _) hb2 (Nat.le_refl _)) (Nat.le_refl _))
        have HE2 := Lib.hid ((HE.out.below HB2.out HE.out.size))
        clear hb2
        by_cases hin : -maxSaid ≤ n ∧ n ≤ maxSaid
        · have hall : allIn (-maxSaid) maxSaid [n] = true := by unfold allIn; simp [hin.1, hin.2]
          rw [hall]
          clear hall
          go_wp2_with fail
          refine (itoa_any n _ HE2.out hnb.1 hnb.2).mono ?_
          rintro e w3 ⟨rfl, hb3⟩
          have HB3 := Lib.hid (below_then HB2.out hb3 (Nat.le_refl _))
          have HBr3 := Lib.hid (below_then HBr2.out hb3 (Nat.le_refl _))
          clear hb3
          have HIN := Lib.hid hin
          clear hin hnb
          obtain ⟨y, hy⟩ : ∃ y : ByteArray, y = ⟨(Lib.itoa n).toArray⟩ := ⟨_, rfl⟩
          rw [← hy]
          have hyl : Lib.itoa n = y.data.toList := by rw [hy]
          have HY := Lib.hid hyl
          clear hy hyl
          by_cases heq : Lib.itoa n = x.data.toList
          · have hyx : (y.toList == x.toList) = true := by
              rw [HY.out] at heq
              rw [toList_data, toList_data, heq]; simp
            have HN := Lib.hid (show num x.data.toList = some n by rw [HNUM2.out, if_pos ⟨HIN.out.1, HIN.out.2, heq⟩])
            clear heq
            have hown3 := owns_step HOWN.out HBr3.out
            have hz : w.heap.size ≤ w3.heap.size := HB3.out.size
            have HNS := Lib.hid (show ns.length ≤ 1000000000 by rw [HLEN.out]; omega)
            go_wp2_with (at_builtin; refine wpList_append_own _ rfl _ _ 42 rfl w.heap.size 3 i0 (.int .i64 0) 1 8 Tryz.underlying42 hi hz0 hz1 hz2 rfl (by decide) _ _ _ rfl (hown3.alloc _) ⟨w3.heap.size, 0, none⟩ 1 1 [.int .i64 n] rfl rfl ?c1 ?c2 ?c3 ?c4 ?c5 ?_)
            case c1 => exact cell_one_new _ _ _
            case c2 => simp [Value.oneCell']
            case c3 => have := HNS.out; unfold maxLen; omega
            case c4 => have := HNS.out; omega
            case c5 => simp; omega
            intro v' w4 hown4 hgrow _
            have HB4 := Lib.hid ((HB3.out.alloc hz _).grown hgrow (by simp; omega) (fun q hq => (hown3.lt q hq).1))
            have HOWN4 := Lib.hid hown4
            clear hown4 hgrow hown3 hz
            go_wp2
            go_roundw
            case rel => exact ⟨k + 1, ns ++ [n], by omega, by go_num, nums_take_succ HNUM.out HXB.out HN.out, by simpa using HOWN4.out, by rw [List.length_append, HLEN.out]; rfl, HB4.out⟩
            case measure => simp [intOf]; omega
          · have hyx : (y.toList == x.toList) = false := by
              rw [HY.out] at heq
              rw [toList_data, toList_data]; simpa using heq
            have HBAD := Lib.hid (show num x.data.toList = none by rw [HNUM2.out, if_neg (fun h => heq h.2.2)])
            clear heq
            go_wp2
            go_ret2
            exact numsPost_none HB3.out (nums_take_none HXB.out HBAD.out) rfl
        · have hall : allIn (-maxSaid) maxSaid [n] = false := by unfold allIn; simp; omega
          rw [hall]
          clear hall
          have hnone := HNUM2.out
          rw [if_neg (fun h => hin ⟨h.1, h.2.1⟩)] at hnone
          have HBAD := Lib.hid hnone
          clear hnone hin
          go_wp2
          go_ret2
          exact numsPost_none HB2.out (nums_take_none HXB.out HBAD.out) rfl
      · have HBAD := Lib.hid (num_bad (fun n h => hok ⟨n, h⟩))
        have HOK := Lib.hid (fun n h => hok ⟨n, h⟩)
        clear hok num_bad
        go_wp2_with fail
        refine (atoi_bad x _ HEr.out (by omega) (fun n h => HOK.out n h)).mono ?_
        rintro e w1 ⟨n, N, rfl, hb1⟩
        have HB1 := Lib.hid hb1
        have HBT := Lib.hid (hb.trans (hb1.mono hb.size))
        clear hb hb1
        go_wp2
        go_ret2
        exact numsPost_none HBT.out (nums_take_none HXB.out HBAD.out) rfl
    · obtain rfl : k = ss.length := by omega
      go_wp2
      go_ret2
      have hall := HNUM.out
      rw [List.take_of_length_le (by simp)] at hall
      exact numsPost_some hb hall rfl HOWN.out
end Go.Proofs.YtjamdppihpeijaaGreatDoor
