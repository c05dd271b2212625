/- The reference's ReadBook and ReadLog: what they read is what the plain 'readTop' reads; at every text of a size that is not great. -/
import Derived.Test.YtjamdppihpeijaaGreatDoorRefRead
import Derived.Test.YtjamdppihpeijaaGreatDoorRefLog
namespace Go.Proofs.YtjamdppihpeijaaGreatDoor
open Go.RowKit

theorem Ct.step {w w' : World} {base B : Nat} {bk : Bk} {vr vl : Value} (h : Ct w base B bk vr vl) (hb : Below w.heap.size w w') : Ct w' base B bk vr vl :=
  ⟨(hb.block B (Array.getElem?_eq_some_iff.1 h.box).1).trans h.box, h.hB, owns_step h.rows hb, owns_step h.lets hb, h.total⟩
theorem EnCells.step {w w' : World} {base : Nat} {cs : List Value} {l : List En} (h : EnCells w base cs l) (hb : Below w.heap.size w w') : EnCells w' base cs l :=
  h.only (O := fun _ => False) ⟨hb.os, hb.tape, hb.output, hb.size, fun k hk _ => hb.block k hk⟩ (fun _ h => h.elim)
theorem Lg.step {w w' : World} {base B : Nat} {lg : List En} {vg : Value} (h : Lg w base B lg vg) (hb : Below w.heap.size w w') : Lg w' base B lg vg := by
  obtain ⟨cs, h1, h2⟩ := h.log
  exact ⟨(hb.block B (Array.getElem?_eq_some_iff.1 h.box).1).trans h.box, h.hB, ⟨cs, owns_step h1 hb, h2.step hb⟩, h.total⟩

theorem addOk_book (base B : Nat) : AddOk addBook (fun bk w => ∃ vr vl, Ct w base B bk vr vl) base B := by
  rintro s a c ms bk w ⟨vr, vl, hct⟩ hr hne hm hs hn
  refine (radd_book s a c ms base B bk vr vl w hct hr hne hm hs hn).mono ?_
  rintro e w' ⟨ho, hp⟩
  have hB := (Array.getElem?_eq_some_iff.1 hct.box).1
  have hb := hct.hB
  refine ⟨ho.below ?_ (by omega), ?_⟩
  · rintro k (rfl | hk | hk)
    · exact hb
    · exact (owns_block hct.rows hk).1
    · exact (owns_block hct.lets hk).1
  · cases hA : addBook bk (ms.map (sub s.data.toList)) with
    | none => rw [hA] at hp; exact hp
    | some bk' => rw [hA] at hp; obtain ⟨he, vr', vl', h, _⟩ := hp; exact ⟨he, vr', vl', h⟩
theorem addOk_log (base B : Nat) : AddOk addLog (fun lg w => ∃ vg, Lg w base B lg vg) base B := by
  rintro s a c ms lg w ⟨vg, hct⟩ hr hne hm hs hn
  refine (radd_log s a c ms base B lg vg w hct hr hne hm hs hn).mono ?_
  rintro e w' ⟨ho, hp⟩
  have hB := (Array.getElem?_eq_some_iff.1 hct.box).1
  have hb := hct.hB
  obtain ⟨cs, h1, _⟩ := hct.log
  refine ⟨ho.below ?_ (by omega), ?_⟩
  · rintro k (rfl | hk)
    · exact hb
    · exact (owns_block h1 hk).1
  · cases hA : addLog lg (ms.map (sub s.data.toList)) with
    | none => rw [hA] at hp; exact hp
    | some bk' => rw [hA] at hp; obtain ⟨he, vg', h, _⟩ := hp; exact ⟨he, vg', h⟩

/-- What a reading of a book gives. -/
def BookPost (l : List UInt8) (w : World) (e : Ending) (w' : World) : Prop :=
  Below w.heap.size w w' ∧ match readTop addBook l ⟨[], []⟩ with
    | .error (n, c) => e = .returned (.tuple #[.agg #[.slice none 0 0, .slice none 0 0], .int .i64 n, .int .i64 c])
    | .ok bk => ∃ vr vl, e = .returned (.tuple #[.agg #[vr, vl], .int .i64 0, .int .i64 0]) ∧ w'.ownsRow w.heap.size 48 14 vr bk.rows.length (rowCells bk.rows) ∧ w'.ownsRow w.heap.size 51 8 vl bk.lets.length (letCells bk.lets) ∧ bk.rows.length + bk.lets.length ≤ 300
theorem bookPost_err {l : List UInt8} {w w' : World} {e : Ending} {n : Nat} {c : Int} (hb : Below w.heap.size w w') (h : readTop addBook l ⟨[], []⟩ = .error (n, c)) (he : e = .returned (.tuple #[.agg #[.slice none 0 0, .slice none 0 0], .int .i64 n, .int .i64 c])) : BookPost l w e w' := by
  refine ⟨hb, ?_⟩; rw [h]; exact he
theorem bookPost_ok {l : List UInt8} {w w' : World} {e : Ending} {bk : Bk} {vr vl : Value} (hb : Below w.heap.size w w') (h : readTop addBook l ⟨[], []⟩ = .ok bk) (he : e = .returned (.tuple #[.agg #[vr, vl], .int .i64 0, .int .i64 0]))
    (h1 : w'.ownsRow w.heap.size 48 14 vr bk.rows.length (rowCells bk.rows)) (h2 : w'.ownsRow w.heap.size 51 8 vl bk.lets.length (letCells bk.lets)) (h3 : bk.rows.length + bk.lets.length ≤ 300) : BookPost l w e w' := by
  refine ⟨hb, ?_⟩; rw [h]; exact ⟨vr, vl, he, h1, h2, h3⟩
/-- What a reading of a log gives. -/
def LogPost (l : List UInt8) (w : World) (e : Ending) (w' : World) : Prop :=
  Below w.heap.size w w' ∧ match readTop addLog l [] with
    | .error (n, c) => e = .returned (.tuple #[.slice none 0 0, .int .i64 n, .int .i64 c])
    | .ok lg => ∃ vg, e = .returned (.tuple #[vg, .int .i64 0, .int .i64 0]) ∧ (∃ cs, w'.ownsRow w.heap.size 62 3 vg lg.length cs ∧ EnCells w' w.heap.size cs lg) ∧ lg.length ≤ 200
theorem logPost_err {l : List UInt8} {w w' : World} {e : Ending} {n : Nat} {c : Int} (hb : Below w.heap.size w w') (h : readTop addLog l [] = .error (n, c)) (he : e = .returned (.tuple #[.slice none 0 0, .int .i64 n, .int .i64 c])) : LogPost l w e w' := by
  refine ⟨hb, ?_⟩; rw [h]; exact he
theorem logPost_ok {l : List UInt8} {w w' : World} {e : Ending} {lg : List En} {vg : Value} (hb : Below w.heap.size w w') (h : readTop addLog l [] = .ok lg) (he : e = .returned (.tuple #[vg, .int .i64 0, .int .i64 0]))
    (h1 : ∃ cs, w'.ownsRow w.heap.size 62 3 vg lg.length cs ∧ EnCells w' w.heap.size cs lg) (h2 : lg.length ≤ 200) : LogPost l w e w' := by
  refine ⟨hb, ?_⟩; rw [h]; exact ⟨vg, he, h1, h2⟩

theorem heap_alloc_lt (w : World) (o : Obj) (k : Nat) (h : k < w.heap.size) : (w.alloc o).heap[k]? = w.heap[k]? := (below_alloc w o).block k h
theorem owns_low {w : World} {b : Nat} {e : TypeId} {size : Nat} {v : Value} {n : Nat} {xs : List Value} (h : w.ownsRow b e size v n xs) {k : Nat} (hk : k < b) : v.ownBlock ≠ some k := fun e => by
  have := (owns_block h e).1; omega
theorem rd_book (l : List UInt8) : (∃ n c, readTop addBook l ⟨[], []⟩ = .error (n, c) ∧ (c != 0) = true) ∨ ∃ bk, readTop addBook l ⟨[], []⟩ = .ok bk := by
  cases h : readTop addBook l ⟨[], []⟩ with
  | ok bk => exact .inr ⟨bk, rfl⟩
  | error r => obtain ⟨n, c⟩ := r; refine .inl ⟨n, c, rfl, ?_⟩; rcases readTop_code _ _ _ _ h with h | h | h <;> (simp only at h; rw [h]; rfl)
theorem rd_log (l : List UInt8) : (∃ n c, readTop addLog l [] = .error (n, c) ∧ (c != 0) = true) ∨ ∃ lg, readTop addLog l [] = .ok lg := by
  cases h : readTop addLog l [] with
  | ok bk => exact .inr ⟨bk, rfl⟩
  | error r => obtain ⟨n, c⟩ := r; refine .inl ⟨n, c, rfl, ?_⟩; rcases readTop_code _ _ _ _ h with h | h | h <;> (simp only at h; rw [h]; rfl)

theorem rReadBook_any (s : ByteArray) (w : World) (hs : s.size ≤ 1000000000) : Calls Tryz.prog 5 #[.string s] w (BookPost s.data.toList w) := by
  obtain ⟨W0, hW0⟩ : ∃ W0, W0 = ((w.alloc (.cells #[.slice none 0 0, .slice none 0 0] 25)).alloc (.cells #[.slice none 0 0, .slice none 0 0, .slice none 0 0, .bool false] 57)) := ⟨_, rfl⟩
  have hsz : W0.heap.size = w.heap.size + 2 := by rw [hW0]; simp
  have hbox : W0.heap[w.heap.size + 1]? = some (.cells #[.slice none 0 0, .slice none 0 0, .slice none 0 0, .bool false] 57 (0, 0)) := by
    rw [hW0]; simpa using heap_alloc_new (w.alloc (.cells #[.slice none 0 0, .slice none 0 0] 25)) (.cells #[.slice none 0 0, .slice none 0 0, .slice none 0 0, .bool false] 57)
  have hres : W0.heap[w.heap.size]? = some (.cells #[.slice none 0 0, .slice none 0 0] 25 (0, 0)) := by
    rw [hW0, heap_alloc_lt _ _ _ (by simp)]; exact heap_alloc_new _ _
  have HB0 : Hid (Below w.heap.size w W0) := Lib.hid (by rw [hW0]; exact ((Below.refl _ _).alloc (Nat.le_refl _) _).alloc (by simp) _)
  have HRD := Lib.hid ((rread_any addBook (fun bk w' => ∃ vr vl, Ct w' (w.heap.size + 1) (w.heap.size + 1) bk vr vl) (w.heap.size + 1) (w.heap.size + 1) (addOk_book _ _)
    (fun st w1 w2 ⟨vr, vl, h⟩ hb _ => ⟨vr, vl, h.step hb⟩) s ⟨[], []⟩ W0 ⟨_, _, hbox, Nat.le_refl _, World.ownsRow_nil _ _ _ _, World.ownsRow_nil _ _ _ _, by simp⟩ (by omega) hs))
  have HSZ := Lib.hid hsz
  have HRES := Lib.hid hres
  clear hbox hsz hres
  go_enter Tryz.func5, Tryz.ntmps5
  go_wp2_with fail
  rw [← hW0]
  clear hW0
  refine HRD.out.mono ?_
  rintro e w3 ⟨hb3, hp⟩
  have hcell : w3.heap[w.heap.size]? = some (.cells #[.slice none 0 0, .slice none 0 0] 25 (0, 0)) := (hb3.block _ (by omega)).trans HRES.out
  have HB3 : Hid (Below w.heap.size w w3) := Lib.hid (HB0.out.trans (hb3.mono (by omega)))
  have c0 := cell_of hcell 0
  have c1 := cell_of hcell 1
  have f0 := free_of hcell 0
  have f1 := free_of hcell 1
  simp only [List.getElem?_toArray, List.getElem?_cons_zero, List.getElem?_cons_succ] at c0 c1
  clear hb3 hcell
  rcases rd_book s.data.toList with ⟨n, c, hR, hc⟩ | ⟨bk, hR⟩
  · rw [hR] at hp
    simp only at hp
    subst hp
    have HR := Lib.hid hR
    clear hR
    go_wp2
    refine bodyPost_ret (v := .tuple #[.agg #[.slice none 0 0, .slice none 0 0], .int .i64 n, .int .i64 c]) ?_ rfl (bookPost_err ?_ HR.out rfl)
    · simp [results, Tryz.results5, go_sem, c0, c1]
    · exact (HB3.out.setCell (p := ⟨w.heap.size, 0, none⟩) (Nat.le_refl _) _).setCell (p := ⟨w.heap.size, 1, none⟩) (Nat.le_refl _) _
  · rw [hR] at hp
    simp only at hp
    obtain ⟨rfl, vr, vl, hct⟩ := hp
    obtain ⟨ar, cr, rfl⟩ := owns_slice hct.rows
    obtain ⟨al, cl, rfl⟩ := owns_slice hct.lets
    have b0 := cell_of hct.box 0
    have b1 := cell_of hct.box 1
    simp only [List.getElem?_toArray, List.getElem?_cons_zero, List.getElem?_cons_succ] at b0 b1
    have HR := Lib.hid hR
    have HCT := Lib.hid hct
    clear hR hct
    go_wp2
    refine bodyPost_ret (v := .tuple #[.agg #[.slice ar bk.rows.length cr, .slice al bk.lets.length cl], .int .i64 0, .int .i64 0]) ?_ rfl (bookPost_ok (bk := bk) ?_ HR.out rfl ?_ ?_ HCT.out.total)
    · simp [results, Tryz.results5, go_sem, c0, c1]
    · exact (HB3.out.setCell (p := ⟨w.heap.size, 0, none⟩) (Nat.le_refl _) _).setCell (p := ⟨w.heap.size, 1, none⟩) (Nat.le_refl _) _
    · exact owns_setCell (owns_setCell (owns_base HCT.out.rows (Nat.le_succ _)) (owns_low HCT.out.rows (Nat.lt_succ_self _)) _) (owns_low HCT.out.rows (Nat.lt_succ_self _)) _
    · exact owns_setCell (owns_setCell (owns_base HCT.out.lets (Nat.le_succ _)) (owns_low HCT.out.lets (Nat.lt_succ_self _)) _) (owns_low HCT.out.lets (Nat.lt_succ_self _)) _

theorem rReadLog_any (s : ByteArray) (w : World) (hs : s.size ≤ 1000000000) : Calls Tryz.prog 7 #[.string s] w (LogPost s.data.toList w) := by
  obtain ⟨W0, hW0⟩ : ∃ W0, W0 = (w.alloc (.cells #[.slice none 0 0, .slice none 0 0, .slice none 0 0, .bool true] 57)) := ⟨_, rfl⟩
  have hsz : W0.heap.size = w.heap.size + 1 := by rw [hW0]; simp
  have hbox : W0.heap[w.heap.size]? = some (.cells #[.slice none 0 0, .slice none 0 0, .slice none 0 0, .bool true] 57 (0, 0)) := by
    rw [hW0]; exact heap_alloc_new w _
  have HB0 : Hid (Below w.heap.size w W0) := Lib.hid (by rw [hW0]; exact (Below.refl _ _).alloc (Nat.le_refl _) _)
  have HRD := Lib.hid ((rread_any addLog (fun lg w' => ∃ vg, Lg w' w.heap.size w.heap.size lg vg) w.heap.size w.heap.size (addOk_log _ _)
    (fun st w1 w2 ⟨vg, h⟩ hb _ => ⟨vg, h.step hb⟩) s [] W0 ⟨_, hbox, Nat.le_refl _, ⟨[], World.ownsRow_nil _ _ _ _, trivial⟩, by simp⟩ (by omega) hs))
  clear hbox hsz
  go_enter Tryz.func7, Tryz.ntmps7
  go_wp2_with fail
  rw [← hW0]
  clear hW0
  refine HRD.out.mono ?_
  rintro e w3 ⟨hb3, hp⟩
  have HB3 : Hid (Below w.heap.size w w3) := Lib.hid (HB0.out.trans hb3)
  clear hb3
  rcases rd_log s.data.toList with ⟨n, c, hR, hc⟩ | ⟨lg, hR⟩
  · rw [hR] at hp
    simp only at hp
    subst hp
    have HR := Lib.hid hR
    clear hR
    go_wp2
    exact bodyPost_ret (v := .tuple #[.slice none 0 0, .int .i64 n, .int .i64 c]) (by simp [results, Tryz.results7]) rfl (logPost_err HB3.out HR.out rfl)
  · rw [hR] at hp
    simp only at hp
    obtain ⟨rfl, vg, hct⟩ := hp
    obtain ⟨cs, h1, _⟩ := hct.log
    obtain ⟨ag, cg, rfl⟩ := owns_slice h1
    have b2 := cell_of hct.box 2
    simp only [List.getElem?_toArray, List.getElem?_cons_zero, List.getElem?_cons_succ] at b2
    have HR := Lib.hid hR
    have HCT := Lib.hid hct
    clear hR hct h1
    go_wp2
    exact bodyPost_ret (v := .tuple #[.slice ag lg.length cg, .int .i64 0, .int .i64 0]) (by simp [results, Tryz.results7]) rfl (logPost_ok HB3.out HR.out rfl HCT.out.log HCT.out.total)
end Go.Proofs.YtjamdppihpeijaaGreatDoor
