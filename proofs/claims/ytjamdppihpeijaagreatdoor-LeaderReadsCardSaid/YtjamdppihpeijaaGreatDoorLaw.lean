/- The law 'LeaderReads' walked over the contracts of both sides: it returns true; the condition is 'Env'. -/
import Derived.Test.YtjamdppihpeijaaGreatDoorPTop
import Derived.Test.YtjamdppihpeijaaGreatDoorSame
namespace Go.Proofs.YtjamdppihpeijaaGreatDoor
open Go.RowKit

structure BookOf where
  rows : List (List Int)
  lets : List (List Int)
  line : Int
  code : Int
def bookOf (l : List UInt8) : BookOf :=
  match readTop addBook l ⟨[], []⟩ with
  | .error (n, c) => ⟨[], [], n, c⟩
  | .ok bk => ⟨bk.rows, bk.lets, 0, 0⟩
structure LogOf where
  log : List En
  line : Int
  code : Int
def logOf (l : List UInt8) : LogOf :=
  match readTop addLog l [] with
  | .error (n, c) => ⟨[], n, c⟩
  | .ok lg => ⟨lg, 0, 0⟩
def BookRd (x : BookOf) (w : World) (e : Ending) (w' : World) : Prop :=
  Below w.heap.size w w' ∧ x.rows.length ≤ 1000 ∧ x.lets.length ≤ 1000 ∧ ∃ a1 c1 a2 c2, e = .returned (.tuple #[.agg #[.slice a1 x.rows.length c1, .slice a2 x.lets.length c2], .int .i64 x.line, .int .i64 x.code]) ∧ RdR w' a1 x.rows ∧ RdL w' a2 x.lets
theorem bookPost_rd {l : List UInt8} {w w' : World} {e : Ending} (h : BookPost l w e w') : BookRd (bookOf l) w e w' := by
  obtain ⟨hb, h⟩ := h
  refine ⟨hb, ?_⟩
  unfold bookOf
  cases hR : readTop addBook l ⟨[], []⟩ with
  | error r => rw [hR] at h; exact ⟨by simp, by simp, none, 0, none, 0, h, .inl rfl, .inl rfl⟩
  | ok bk =>
    rw [hR] at h
    obtain ⟨vr, vl, rfl, h1, h2, h3⟩ := h
    obtain ⟨ar, cr, rfl⟩ := owns_slice h1
    obtain ⟨al, cl, rfl⟩ := owns_slice h2
    exact ⟨by simp only; omega, by simp only; omega, ar, cr, al, cl, rfl, RdR.of_owns h1, RdL.of_owns h2⟩
def LogRd (x : LogOf) (w : World) (e : Ending) (w' : World) : Prop :=
  Below w.heap.size w w' ∧ x.log.length ≤ 1000 ∧ (∀ y ∈ x.log, y.args.length ≤ 14) ∧ ∃ a c, e = .returned (.tuple #[.slice a x.log.length c, .int .i64 x.line, .int .i64 x.code]) ∧ RdE w' a x.log
theorem logPost_rd {l : List UInt8} {w w' : World} {e : Ending} (h : LogPost l w e w') : LogRd (logOf l) w e w' := by
  obtain ⟨hb, h⟩ := h
  refine ⟨hb, ?_⟩
  unfold logOf
  cases hR : readTop addLog l [] with
  | error r => rw [hR] at h; exact ⟨by simp, by simp, none, 0, h, .inl rfl⟩
  | ok lg =>
    rw [hR] at h
    obtain ⟨vg, rfl, ⟨cs, h1, h2⟩, h3⟩ := h
    obtain ⟨ag, cg, rfl⟩ := owns_slice h1
    exact ⟨by simp only; omega, log_args hR, ag, cg, rfl, RdE.of_owns h1 h2⟩
theorem law_big (s : ByteArray) (w : World) (hs : 40000 < s.size) :
    Calls Tryz.prog 3 #[.string s] w fun e w' => e = .returned (.bool true) ∧ Below w.heap.size w w' := by
  go_enter Tryz.func3, Tryz.ntmps3
  go_wp2
  go_ret
  exact ⟨rfl, Below.refl _ _⟩
set_option maxRecDepth 100000 in
set_option maxHeartbeats 1000000 in
theorem law_any (s : ByteArray) (w : World) (he : Env w) :
    Calls Tryz.prog 3 #[.string s] w fun e w' => e = .returned (.bool true) ∧ Below w.heap.size w w' := by
  by_cases hbig : 40000 < s.size
  · exact law_big s w hbig
  have hsz : s.size ≤ 40000 := by omega
  obtain ⟨x, hx⟩ : ∃ x, x = bookOf s.data.toList := ⟨_, rfl⟩
  obtain ⟨y, hy⟩ : ∃ y, y = logOf s.data.toList := ⟨_, rfl⟩
  have H1 : Hid (∀ W, Env W → Calls Tryz.prog 4 #[.string s] W (BookRd x W)) := Lib.hid (fun W hW => (pReadBook_any s W hW (by omega)).mono (fun _ _ h => hx ▸ bookPost_rd h))
  have H2 : Hid (∀ W, Calls Tryz.prog 5 #[.string s] W (BookRd x W)) := Lib.hid (fun W => (rReadBook_any s W (by omega)).mono (fun _ _ h => hx ▸ bookPost_rd h))
  have H3 : Hid (∀ W, Env W → Calls Tryz.prog 6 #[.string s] W (LogRd y W)) := Lib.hid (fun W hW => (pReadLog_any s W hW (by omega)).mono (fun _ _ h => hy ▸ logPost_rd h))
  have H4 : Hid (∀ W, Calls Tryz.prog 7 #[.string s] W (LogRd y W)) := Lib.hid (fun W => (rReadLog_any s W (by omega)).mono (fun _ _ h => hy ▸ logPost_rd h))
  have HE := Lib.hid he
  clear hx hy he
  go_enter Tryz.func3, Tryz.ntmps3
  go_wp2_with fail
  refine (H1.out _ HE.out).mono ?_
  rintro e w1 ⟨hb1, hn1, hn2, a1, c1, a2, c2, rfl, hr1, hr2⟩
  obtain ⟨W1, hW1⟩ : ∃ W1, W1 = w1.alloc (.cells #[.slice a1 x.rows.length c1, .slice a2 x.lets.length c2] 25) := ⟨_, rfl⟩
  have hbW1 : Below w1.heap.size w1 W1 := by rw [hW1]; exact below_alloc _ _
  have hbox1 : W1.heap[w1.heap.size]? = some (.cells #[.slice a1 x.rows.length c1, .slice a2 x.lets.length c2] 25 (0, 0)) := by rw [hW1]; exact heap_alloc_new _ _
  have HB1 : Hid (Below w.heap.size w W1) := Lib.hid (below_then hb1 hbW1 (Nat.le_refl _))
  have HR1 := Lib.hid (hr1.step hbW1)
  have HR2 := Lib.hid (hr2.step hbW1)
  have HE1 : Hid (Env W1) := Lib.hid (HE.out.step HB1.out)
  have HX1 := Lib.hid hbox1
  clear hb1 hr1 hr2 hbW1 hbox1
  go_wp2_with fail
  rw [← hW1]
  clear hW1
  refine (H2.out _).mono ?_
  rintro e w2 ⟨hb2, _, _, a3, c3, a4, c4, rfl, hr3, hr4⟩
  obtain ⟨W2, hW2⟩ : ∃ W2, W2 = w2.alloc (.cells #[.slice a3 x.rows.length c3, .slice a4 x.lets.length c4] 25) := ⟨_, rfl⟩
  have hbW2 : Below w2.heap.size w2 W2 := by rw [hW2]; exact below_alloc _ _
  have hbox2 : W2.heap[w2.heap.size]? = some (.cells #[.slice a3 x.rows.length c3, .slice a4 x.lets.length c4] 25 (0, 0)) := by rw [hW2]; exact heap_alloc_new _ _
  have HB2 : Hid (Below W1.heap.size W1 W2) := Lib.hid (below_then hb2 hbW2 (Nat.le_refl _))
  have HR3 := Lib.hid (hr3.step hbW2)
  have HR4 := Lib.hid (hr4.step hbW2)
  have HE2 : Hid (Env W2) := Lib.hid (HE1.out.step HB2.out)
  have HX2 := Lib.hid hbox2
  clear hb2 hr3 hr4 hbW2 hbox2
  go_wp2_with fail
  rw [← hW2]
  clear hW2
  refine (H3.out _ HE2.out).mono ?_
  rintro e w3 ⟨hb3, hn3, hargs, a5, c5, rfl, hr5⟩
  have HB3 := Lib.hid hb3
  have HR5 := Lib.hid hr5
  have HARG := Lib.hid hargs
  clear hb3 hr5 hargs
  go_wp2_with fail
  refine (H4.out _).mono ?_
  rintro e w4 ⟨hb4, _, _, a6, c6, rfl, hr6⟩
  have HB4 := Lib.hid hb4
  have HR6 := Lib.hid hr6
  clear hb4 hr6
  have HB24 : Hid (Below W2.heap.size W2 w4) := Lib.hid (below_then HB3.out HB4.out (Nat.le_refl _))
  have HB14 : Hid (Below W1.heap.size W1 w4) := Lib.hid (below_then HB2.out HB24.out (Nat.le_refl _))
  have hx1 := (HB14.out.block _ (Array.getElem?_eq_some_iff.1 HX1.out).1).trans HX1.out
  have hx2 := (HB24.out.block _ (Array.getElem?_eq_some_iff.1 HX2.out).1).trans HX2.out
  have e0 := cell_of hx1 0
  have e1 := cell_of hx1 1
  have e2 := cell_of hx2 0
  have e3 := cell_of hx2 1
  simp only [List.getElem?_toArray, List.getElem?_cons_zero, List.getElem?_cons_succ] at e0 e1 e2 e3
  have HSB := Lib.hid (sameBook_eq a1 a3 a2 a4 c1 c3 c2 c4 x.rows x.lets w4 (HR1.out.step HB14.out) (HR3.out.step HB24.out) (HR2.out.step HB14.out) (HR4.out.step HB24.out) hn1 hn2)
  clear hx1 hx2
  go_wp2_with fail
  refine HSB.out.mono ?_
  rintro e w5 ⟨rfl, hb5⟩
  have HB5 := Lib.hid hb5
  have HSL := Lib.hid (sameLog_eq a5 a6 c5 c6 y.log w5 ((HR5.out.step HB4.out).step hb5) (HR6.out.step hb5) hn3 HARG.out)
  clear hb5
  go_wp2_with fail
  refine HSL.out.mono ?_
  rintro e w6 ⟨rfl, q, rfl⟩
  go_wp2
  go_ret
  refine ⟨rfl, ?_⟩
  have h1 : Below w.heap.size w w4 := HB1.out.trans (HB14.out.mono HB1.out.size)
  have h2 : Below w.heap.size w w5 := h1.trans (HB5.out.mono h1.size)
  exact h2.trans (below_drewN _ _ _)
end Go.Proofs.YtjamdppihpeijaaGreatDoor
