/- The program's ReadBook and ReadLog: what they read is what the plain 'readTop' reads; the condition is 'Env', and that the text is not great. -/
import Derived.Test.YtjamdppihpeijaaGreatDoorUntwist
import Derived.Test.YtjamdppihpeijaaGreatDoorRefTop
namespace Go.Proofs.YtjamdppihpeijaaGreatDoor
open Go.RowKit

def StB (base B : Nat) (bk : Bk) (O : Nat → Prop) (w : World) : Prop :=
  ∃ vr vl, Cb w base B bk vr vl ∧ O = fun k => k = B ∨ vr.ownBlock = some k ∨ vl.ownBlock = some k
def WkB (B : Nat) (w : World) : Prop := ∃ u v, w.heap[B]? = some (.cells #[u, v] 25 (0, 0))
theorem run_book1 (args : Array Value) (w : World) : Sem.run Tryz.prog (callFunc 11 args) w = .ok (.enter 11 args) w := by
  simp [callFunc, Tryz.func11, Tryz.f11]
theorem run_log1 (args : Array Value) (w : World) : Sem.run Tryz.prog (callFunc 16 args) w = .ok (.enter 16 args) w := by
  simp [callFunc, Tryz.func16, Tryz.f16]
theorem take_book (base B : Nat) (h10 : 10 ≤ base) : TakeOk addBook (StB base B) (WkB B) base B 11 where
  low := by
    rintro st O w ⟨vr, vl, hc, rfl⟩ k hk
    rcases hk with rfl | hk | hk
    · exact ⟨hc.hB, (Array.getElem?_eq_some_iff.1 hc.box).1⟩
    · exact ⟨(owns_block hc.rows hk).1, (owns_block hc.rows hk).2.1⟩
    · exact ⟨(owns_block hc.lets hk).1, (owns_block hc.lets hk).2.1⟩
  weak := by
    rintro st O w ⟨vr, vl, hc, rfl⟩
    exact ⟨_, _, hc.box⟩
  keep := by
    rintro st O O1 w w' ⟨vr, vl, hc, rfl⟩ ho hn
    exact ⟨vr, vl, ⟨(ho.block B (Array.getElem?_eq_some_iff.1 hc.box).1 (hn B (.inl rfl))).trans hc.box, hc.hB, owns_only hc.rows ho (fun k hk => hn k (.inr (.inl hk))), owns_only hc.lets ho (fun k hk => hn k (.inr (.inr hk))), hc.total⟩, rfl⟩
  call := by
    rintro a c ss st O w he ⟨vr, vl, hc, rfl⟩ hr hne hcap hn hs
    refine (takeBook_any a c ss base B st vr vl w he hc hr hne hcap hn hs).mono ?_
    rintro e w' ⟨ho, hp⟩
    refine ⟨ho, ?_⟩
    cases hA : addBook st (ss.map (·.data.toList)) with
    | none => rw [hA] at hp; exact hp
    | some st' =>
      rw [hA] at hp
      obtain ⟨he, vr', vl', hc', hn'⟩ := hp
      refine ⟨he, _, ⟨vr', vl', hc', rfl⟩, ?_⟩
      rintro k (rfl | hk)
      · exact .inl (.inl rfl)
      · rcases hn' k hk with h | h | h
        · exact .inl (.inr (.inl h))
        · exact .inl (.inr (.inr h))
        · exact .inr h
  empty := fun st ws h h0 => addBook_empty h h0
  env := h10
  run := run_book1
def StL (base B : Nat) (lg : List En) (O : Nat → Prop) (w : World) : Prop :=
  ∃ vg cs, Cl w base B lg vg cs ∧ O = fun k => k = B ∨ vg.ownBlock = some k ∨ argBlk cs k
def WkL (B : Nat) (w : World) : Prop := ∃ v, w.heap[B]? = some (.cells #[v] 31 (0, 0))
theorem take_log (base B : Nat) (h10 : 10 ≤ base) : TakeOk addLog (StL base B) (WkL B) base B 16 where
  low := by
    rintro st O w ⟨vg, cs, hc, rfl⟩ k hk
    rcases hk with rfl | hk | hk
    · exact ⟨hc.hB, (Array.getElem?_eq_some_iff.1 hc.box).1⟩
    · exact ⟨(owns_block hc.own hk).1, (owns_block hc.own hk).2.1⟩
    · obtain ⟨h1, cur, h2⟩ := hc.en.blk hk
      exact ⟨h1, (Array.getElem?_eq_some_iff.1 h2).1⟩
  weak := by
    rintro st O w ⟨vg, cs, hc, rfl⟩
    exact ⟨_, hc.box⟩
  keep := by
    rintro st O O1 w w' ⟨vg, cs, hc, rfl⟩ ho hn
    exact ⟨vg, cs, ⟨(ho.block B (Array.getElem?_eq_some_iff.1 hc.box).1 (hn B (.inl rfl))).trans hc.box, hc.hB, owns_only hc.own ho (fun k hk => hn k (.inr (.inl hk))), hc.en.keep ho (fun k hk => hn k (.inr (.inr hk))), hc.total⟩, rfl⟩
  call := by
    rintro a c ss st O w he ⟨vg, cs, hc, rfl⟩ hr hne hcap hn hs
    refine (takeLog_any a c ss base B st vg cs w he hc hr hne hcap hn hs).mono ?_
    rintro e w' ⟨ho, hp⟩
    refine ⟨⟨ho.os, ho.tape, ho.output, ho.size, fun k hk hn => ho.block k hk (fun h => hn (h.imp id .inl))⟩, ?_⟩
    cases hA : addLog st (ss.map (·.data.toList)) with
    | none => rw [hA] at hp; exact hp
    | some st' =>
      rw [hA] at hp
      obtain ⟨he, vg', cs', hc', hn'⟩ := hp
      refine ⟨he, _, ⟨vg', cs', hc', rfl⟩, ?_⟩
      rintro k (rfl | hk)
      · exact .inl (.inl rfl)
      · rcases hn' k hk with h | h | h
        · exact .inl (.inr (.inl h))
        · exact .inl (.inr (.inr h))
        · exact .inr h
  empty := fun st ws h h0 => addLog_empty h h0
  env := h10
  run := run_log1

theorem pReadBook_any (s : ByteArray) (w : World) (he : Env w) (hs : s.size ≤ 1000000000) : Calls Tryz.prog 4 #[.string s] w (BookPost s.data.toList w) := by
  obtain ⟨W0, hW0⟩ : ∃ W0, W0 = w.alloc (.cells #[.slice none 0 0, .slice none 0 0] 25) := ⟨_, rfl⟩
  have hbl : Below w.heap.size w W0 := by rw [hW0]; exact below_alloc _ _
  have hbox : W0.heap[w.heap.size]? = some (.cells #[.slice none 0 0, .slice none 0 0] 25 (0, 0)) := by rw [hW0]; exact heap_alloc_new _ _
  have HB0 := Lib.hid hbl
  have HUN := Lib.hid (untwist_any addBook (StB w.heap.size w.heap.size) (WkB w.heap.size) w.heap.size w.heap.size 11 (take_book _ _ he.size) s ⟨[], []⟩ _ W0 ⟨_, _, ⟨hbox, Nat.le_refl _, World.ownsRow_nil _ _ _ _, World.ownsRow_nil _ _ _ _, by simp⟩, rfl⟩ (he.step hbl) hbl.size hs)
  clear hbl hbox he
  go_enter Tryz.func4, Tryz.ntmps4
  go_wp2_with fail
  rw [← hW0]
  clear hW0
  refine HUN.out.mono ?_
  rintro e w3 ⟨hb3, hp⟩
  have HB3 : Hid (Below w.heap.size w w3) := Lib.hid (HB0.out.trans hb3)
  clear hb3
  rcases rd_book s.data.toList with ⟨n, c, hR, hc⟩ | ⟨bk, hR⟩
  · rw [hR] at hp
    simp only at hp
    obtain ⟨rfl, u, v, hcell⟩ := hp
    have c0 := cell_of hcell 0
    have c1 := cell_of hcell 1
    have f0 := free_of hcell 0
    have f1 := free_of hcell 1
    simp only [List.getElem?_toArray, List.getElem?_cons_zero, List.getElem?_cons_succ] at c0 c1
    have HR := Lib.hid hR
    clear hR hcell
    go_wp2
    refine bodyPost_ret (v := .tuple #[.agg #[.slice none 0 0, .slice none 0 0], .int .i64 n, .int .i64 c]) ?_ rfl (bookPost_err ?_ HR.out rfl)
    · simp [results, Tryz.results4, go_sem, c0, c1]
    · exact (HB3.out.setCell (p := ⟨w.heap.size, 0, none⟩) (Nat.le_refl _) _).setCell (p := ⟨w.heap.size, 1, none⟩) (Nat.le_refl _) _
  · rw [hR] at hp
    simp only at hp
    obtain ⟨rfl, O, vr, vl, hct, _⟩ := hp
    obtain ⟨ar, cr, rfl⟩ := owns_slice hct.rows
    obtain ⟨al, cl, rfl⟩ := owns_slice hct.lets
    have c0 := cell_of hct.box 0
    have c1 := cell_of hct.box 1
    have f0 := free_of hct.box 0
    have f1 := free_of hct.box 1
    simp only [List.getElem?_toArray, List.getElem?_cons_zero, List.getElem?_cons_succ] at c0 c1
    have HR := Lib.hid hR
    have HCT := Lib.hid hct
    have hn1 := Lib.hid (owns_box hct.rows hct.box (by decide))
    have hn2 := Lib.hid (owns_box hct.lets hct.box (by decide))
    clear hR hct
    go_wp2
    refine bodyPost_ret (v := .tuple #[.agg #[.slice ar bk.rows.length cr, .slice al bk.lets.length cl], .int .i64 0, .int .i64 0]) ?_ rfl (bookPost_ok (bk := bk) ?_ HR.out rfl ?_ ?_ HCT.out.total)
    · simp [results, Tryz.results4, go_sem, c0, c1]
    · exact (HB3.out.setCell (p := ⟨w.heap.size, 0, none⟩) (Nat.le_refl _) _).setCell (p := ⟨w.heap.size, 1, none⟩) (Nat.le_refl _) _
    · exact owns_setCell (owns_setCell HCT.out.rows hn1.out _) hn1.out _
    · exact owns_setCell (owns_setCell HCT.out.lets hn2.out _) hn2.out _
theorem pReadLog_any (s : ByteArray) (w : World) (he : Env w) (hs : s.size ≤ 1000000000) : Calls Tryz.prog 6 #[.string s] w (LogPost s.data.toList w) := by
  obtain ⟨W0, hW0⟩ : ∃ W0, W0 = w.alloc (.cells #[.slice none 0 0] 31) := ⟨_, rfl⟩
  have hbl : Below w.heap.size w W0 := by rw [hW0]; exact below_alloc _ _
  have hbox : W0.heap[w.heap.size]? = some (.cells #[.slice none 0 0] 31 (0, 0)) := by rw [hW0]; exact heap_alloc_new _ _
  have HB0 := Lib.hid hbl
  have HUN := Lib.hid (untwist_any addLog (StL w.heap.size w.heap.size) (WkL w.heap.size) w.heap.size w.heap.size 16 (take_log _ _ he.size) s [] _ W0 ⟨_, [], ⟨hbox, Nat.le_refl _, World.ownsRow_nil _ _ _ _, trivial, by simp⟩, rfl⟩ (he.step hbl) hbl.size hs)
  clear hbl hbox he
  go_enter Tryz.func6, Tryz.ntmps6
  go_wp2_with fail
  rw [← hW0]
  clear hW0
  refine HUN.out.mono ?_
  rintro e w3 ⟨hb3, hp⟩
  have HB3 : Hid (Below w.heap.size w w3) := Lib.hid (HB0.out.trans hb3)
  clear hb3
  rcases rd_log s.data.toList with ⟨n, c, hR, hc⟩ | ⟨lg, hR⟩
  · rw [hR] at hp
    simp only at hp
    obtain ⟨rfl, v, hcell⟩ := hp
    have c0 := cell_of hcell 0
    have f0 := free_of hcell 0
    simp only [List.getElem?_toArray, List.getElem?_cons_zero] at c0
    have HR := Lib.hid hR
    clear hR hcell
    go_wp2
    refine bodyPost_ret (v := .tuple #[.slice none 0 0, .int .i64 n, .int .i64 c]) ?_ rfl (logPost_err ?_ HR.out rfl)
    · simp [results, Tryz.results6, go_sem, c0]
    · exact HB3.out.setCell (p := ⟨w.heap.size, 0, none⟩) (Nat.le_refl _) _
  · rw [hR] at hp
    simp only at hp
    obtain ⟨rfl, O, vg, cs, hct, _⟩ := hp
    obtain ⟨ag, cg, rfl⟩ := owns_slice hct.own
    have c0 := cell_of hct.box 0
    have f0 := free_of hct.box 0
    simp only [List.getElem?_toArray, List.getElem?_cons_zero] at c0
    have HR := Lib.hid hR
    have HCT := Lib.hid hct
    have hn1 := Lib.hid (owns_box hct.own hct.box (by decide))
    clear hR hct
    go_wp2
    refine bodyPost_ret (v := .tuple #[.slice ag lg.length cg, .int .i64 0, .int .i64 0]) ?_ rfl (logPost_ok (lg := lg) ?_ HR.out rfl ⟨cs, ?_, ?_⟩ HCT.out.total)
    · simp [results, Tryz.results6, go_sem, c0]
    · exact HB3.out.setCell (p := ⟨w.heap.size, 0, none⟩) (Nat.le_refl _) _
    · exact owns_setCell HCT.out.own hn1.out _
    · exact HCT.out.en.keep (O := fun k => k = w.heap.size) ((Only.refl (fun k => k = w.heap.size) w3).setCell (a := ⟨w.heap.size, 0, none⟩) (.inl rfl) _) (fun k hk e => by
        obtain ⟨_, cur, h2⟩ := HCT.out.en.blk hk
        rw [e, HCT.out.box] at h2; injection h2 with h1; injection h1 with _ h3 _; exact absurd h3 (by decide))
end Go.Proofs.YtjamdppihpeijaaGreatDoor
