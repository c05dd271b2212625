/- The program's 'untwist' over whatever closure: it reads as the plain 'readTop' does, if the closure takes a line's words as the plain function does. -/
import Derived.Test.YtjamdppihpeijaaGreatDoorTexts
import Derived.Deep.RegionHeld3
namespace Go.Proofs.YtjamdppihpeijaaGreatDoor
open Go.RowKit

theorem splitC_len (c : UInt8) : ∀ l : List UInt8, (splitC c l).length ≤ l.length + 1 ∧ ∀ x ∈ splitC c l, x.length ≤ l.length
  | [] => by simp [splitC]
  | x :: r => by
    have ih := splitC_len c r
    unfold splitC
    split
    · refine ⟨by simpa using ih.1, fun y hy => ?_⟩
      rcases List.mem_cons.1 hy with rfl | hy
      · simp
      · have := ih.2 y hy; simp; omega
    · cases hs : splitC c r with
      | nil => exact absurd hs (splitC_ne c r)
      | cons y t =>
        rw [hs] at ih
        refine ⟨by have := ih.1; simp at this ⊢; omega, fun z hz => ?_⟩
        rcases List.mem_cons.1 hz with rfl | hz
        · have := ih.2 y (by simp); simp; omega
        · have := ih.2 z (by simp [hz]); simp; omega

def TakePost {σ : Type} (add : σ → List (List UInt8) → Option σ) (St : σ → (Nat → Prop) → World → Prop) (Wk : World → Prop) (st : σ) (O : Nat → Prop) (ws : List (List UInt8)) (w : World) (e : Ending) (w' : World) : Prop :=
  Only O w w' ∧ match add st ws with
    | none => e = .returned (.bool false) ∧ Wk w'
    | some st' => e = .returned (.bool true) ∧ ∃ O', St st' O' w' ∧ ∀ k, O' k → O k ∨ w.heap.size ≤ k
structure TakeOk {σ : Type} (add : σ → List (List UInt8) → Option σ) (St : σ → (Nat → Prop) → World → Prop) (Wk : World → Prop) (base B fid : Nat) : Prop where
  low : ∀ st O w, St st O w → ∀ k, O k → base ≤ k ∧ k < w.heap.size
  weak : ∀ st O w, St st O w → Wk w
  keep : ∀ st O O1 w w', St st O w → Only O1 w w' → (∀ k, O k → ¬ O1 k) → St st O w'
  call : ∀ a c ss st O w, Env w → St st O w → Rd Value.string w a ss → ss ≠ [] → ss.length ≤ c → ss.length ≤ 1000000000 → (∀ s ∈ ss, s.size ≤ 1000000000) →
    Calls Tryz.prog fid #[.slice a ss.length c, .pointer (some ⟨B, 0, none⟩)] w (TakePost add St Wk st O (ss.map (·.data.toList)) w)
  empty : ∀ st ws, [] ∈ ws → ws.head? ≠ some [] → add st ws = none
  env : 10 ≤ base
  run : ∀ args w, Sem.run Tryz.prog (callFunc fid args) w = .ok (.enter fid args) w
structure Inv {σ : Type} (St : σ → (Nat → Prop) → World → Prop) (base K : Nat) (w0 : World) (st : σ) (O : Nat → Prop) (sum : Int) (w : World) : Prop where
  st : St st O w
  box : w.heap[K]? = some (.cells #[.int .i64 sum] 3 (0, 0))
  nK : ¬ O K
  env : Env w
  below : Below base w0 w
  bd : 0 ≤ sum ∧ sum < 8191
  hK : base ≤ K
section
variable {σ : Type} {add : σ → List (List UInt8) → Option σ} {St : σ → (Nat → Prop) → World → Prop} {Wk : World → Prop} {base B fid K : Nat} {w0 w w' : World} {st st' : σ} {O O' : Nat → Prop} {sm sm' : Int}
theorem Inv.step (hT : TakeOk add St Wk base B fid) (h : Inv St base K w0 st O sm w) (hb : Below w.heap.size w w') : Inv St base K w0 st O sm w' :=
  ⟨hT.keep _ _ _ _ _ h.st (Only.of_below (O := fun _ => False) hb) (fun _ _ h => h), (hb.block K (Array.getElem?_eq_some_iff.1 h.box).1).trans h.box, h.nK, h.env.step hb,
    h.below.trans (hb.mono (Nat.le_trans h.hK (Nat.le_of_lt (Array.getElem?_eq_some_iff.1 h.box).1))), h.bd, h.hK⟩
theorem Inv.size (h : Inv St base K w0 st O sm w) : base ≤ w.heap.size ∧ K < w.heap.size := ⟨Nat.le_trans h.hK (Nat.le_of_lt (Array.getElem?_eq_some_iff.1 h.box).1), (Array.getElem?_eq_some_iff.1 h.box).1⟩
/-- Behind the closure of the words. -/
theorem Inv.take (hT : TakeOk add St Wk base B fid) (h : Inv St base K w0 st O sm w) (ho : Only O w w') (hs : St st' O' w') (hn : ∀ k, O' k → O k ∨ w.heap.size ≤ k) : Inv St base K w0 st' O' sm w' := by
  have hbl := ho.below (fun k hk => (hT.low _ _ _ h.st k hk).1) h.size.1
  exact ⟨hs, (ho.block K h.size.2 h.nK).trans h.box, fun hk => by rcases hn K hk with h1 | h1; exact h.nK h1; have := h.size.2; omega, h.env.below hbl hT.env, h.below.trans hbl, h.bd, h.hK⟩
/-- Behind the closure of the sum. -/
theorem Inv.sum (hT : TakeOk add St Wk base B fid) (h : Inv St base K w0 st O sm w) (ho : Only (fun k => k = K) w w') (hs : w'.heap[K]? = some (.cells #[.int .i64 sm'] 3 (0, 0))) (hd : 0 ≤ sm' ∧ sm' < 8191) : Inv St base K w0 st O sm' w' := by
  have hbl := ho.below (fun k hk => by rw [hk]; exact h.hK) h.size.1
  exact ⟨hT.keep _ _ _ _ _ h.st ho (fun k hk e => h.nK (e ▸ hk)), hs, h.nK, h.env.below hbl hT.env, h.below.trans hbl, hd, h.hK⟩
end
def UnPost {σ : Type} (add : σ → List (List UInt8) → Option σ) (St : σ → (Nat → Prop) → World → Prop) (Wk : World → Prop) (base : Nat) (l : List UInt8) (st : σ) (w : World) (e : Ending) (w' : World) : Prop :=
  Below base w w' ∧ match readTop add l st with
    | .error (n, c) => e = .returned (.tuple #[.int .i64 n, .int .i64 c]) ∧ Wk w'
    | .ok st' => e = .returned (.tuple #[.int .i64 0, .int .i64 0]) ∧ ∃ O, St st' O w'
section
variable {σ : Type} {add : σ → List (List UInt8) → Option σ} {St : σ → (Nat → Prop) → World → Prop} {Wk : World → Prop} {base : Nat} {l : List UInt8} {st : σ} {w w' : World} {e : Ending}
theorem unPost_err {n : Nat} {c : Int} (hb : Below base w w') (hwk : Wk w') (h : readTop add l st = .error (n, c)) (he : e = .returned (.tuple #[.int .i64 n, .int .i64 c])) : UnPost add St Wk base l st w e w' := by
  refine ⟨hb, ?_⟩; rw [h]; exact ⟨he, hwk⟩
theorem unPost_ok {st' : σ} {O : Nat → Prop} (hb : Below base w w') (h : readTop add l st = .ok st') (he : e = .returned (.tuple #[.int .i64 0, .int .i64 0])) (hs : St st' O w') : UnPost add St Wk base l st w e w' := by
  refine ⟨hb, ?_⟩; rw [h]; exact ⟨he, O, hs⟩
end
def strLen : Value → Nat
  | .string s => s.size
  | _ => 0
set_option linter.unusedSimpArgs false in
set_option maxRecDepth 100000 in
set_option maxHeartbeats 6000000 in
theorem untwist_any {σ : Type} (add : σ → List (List UInt8) → Option σ) (St : σ → (Nat → Prop) → World → Prop) (Wk : World → Prop) (base B fid : Nat) (hT : TakeOk add St Wk base B fid) (s : ByteArray) (st0 : σ) (O0 : Nat → Prop) (w : World) (h0 : St st0 O0 w) (he : Env w) (hbase : base ≤ w.heap.size) (hs : s.size ≤ 1000000000) :
    Calls Tryz.prog 10 #[.string s, .func (.func fid) #[] #[.pointer (some ⟨B, 0, none⟩)]] w (UnPost add St Wk base s.data.toList st0 w) := by
  have HT := Lib.hid hT
  have HS0 := Lib.hid h0
  have HE0 := Lib.hid he
  clear hT h0 he
  by_cases hbig : 30000 < s.size
  · have HR := Lib.hid (show readTop add s.data.toList st0 = .error (0, 9) by unfold readTop; rw [if_pos (by simpa using hbig)])
    go_enter Tryz.func10, Tryz.ntmps10
    go_wp2
    go_ret2
    exact unPost_err (n := 0) (Below.refl _ _) (HT.out.weak _ _ _ HS0.out) HR.out rfl
  · obtain ⟨RES, hRES⟩ : ∃ r, r = readTop add s.data.toList st0 := ⟨_, rfl⟩
    have hRES2 : readL add (s.data.toList.length + 1) 23 s.data.toList 1 st0 = RES := by rw [hRES]; unfold readTop; rw [if_neg (by simpa using hbig)]
    have HRES := Lib.hid hRES
    have HRES2 := Lib.hid hRES2
    clear hRES hRES2
    have hsz : s.size ≤ 30000 := by omega
    go_enter Tryz.func10, Tryz.ntmps10
    go_wp2_with fail
    refine (knots_any w).mono ?_
    rintro e w1 ⟨rfl, hw1⟩
    obtain ⟨K, hK⟩ : ∃ K, K = w.heap.size := ⟨_, rfl⟩
    have hbl1 : Below w.heap.size w w1 := by rw [hw1]; exact below_alloc _ _
    have HI : Hid (Inv St base K w st0 O0 23 w1) := Lib.hid ⟨HT.out.keep _ _ _ _ _ HS0.out (Only.of_below (O := fun _ => False) hbl1) (fun _ _ h => h), by rw [hw1, hK]; exact heap_alloc_new w _,
      fun h => by have := (HT.out.low _ _ _ HS0.out K h).2; omega, HE0.out.step hbl1, (hbl1.mono hbase), by omega, by omega⟩
    rw [← hK]
    clear hw1 hbl1 hK
    go_wp2
    go_loopw [7, 8] (fun v7 v8 wr => ∃ (m f : Nat) (rest : ByteArray) (st : σ) (O : Nat → Prop) (sum : Int), v7 = .int .i64 m ∧ v8 = .string rest ∧ rest.size + m ≤ 30000 ∧ Hid (Inv St base K w st O sum wr) ∧ Hid (rest.size < f ∧ readL add f sum rest.data.toList (m + 1) st = RES)) (fun _ v8 _ => strLen v8)
    case atStart =>
      exact ⟨0, s.data.toList.length + 1, s, st0, O0, 23, rfl, rfl, by omega, HI, Lib.hid ⟨by simp, HRES2.out⟩⟩
    case round =>
      obtain ⟨m, f, rest, st, O, sum, rfl, rfl, hm, HI1, HF⟩ := hrel
      clear HI
      by_cases hr0 : rest.data.toList = []
      · have hE : rest.toList.isEmpty = true := by rw [toList_data, hr0]; rfl
        have HERR : Hid (RES = .error (m + 1, 103)) := Lib.hid (by rw [← HF.out.2]; exact readL_none _ _ _ _ _ _ (by have := HF.out.1; omega) (by rw [hr0]; simp))
        clear hr0
        go_wp2
        go_ret2
        exact unPost_err HI1.out.below (HT.out.weak _ _ _ HI1.out.st) (HRES.out ▸ HERR.out) (by simp)
      · have hE : rest.toList.isEmpty = false := by
          rw [toList_data]; cases h : rest.data.toList with
          | nil => exact absurd h hr0
          | cons x r => rfl
        clear hr0
        go_wp2_with fail
        by_cases h10 : (10 : UInt8) ∈ rest.data.toList
        · obtain ⟨a, b, hab, h10a⟩ := List.eq_append_cons_of_mem h10
          refine (cut_yes rest wr a b HI1.out.env (by omega) hab h10a).mono ?_
          rintro e w2 ⟨rfl, hb2⟩
          have HI2 := Lib.hid (HI1.out.step HT.out hb2)
          obtain ⟨L, hL⟩ : ∃ L, L = ByteArray.mk a.toArray := ⟨_, rfl⟩
          obtain ⟨R, hR⟩ : ∃ R, R = ByteArray.mk b.toArray := ⟨_, rfl⟩
          rw [← hL, ← hR]
          have hLl : L.data.toList = a := by rw [hL]
          have hRl : R.data.toList = b := by rw [hR]
          have hszs : rest.size = L.size + R.size + 1 := by
            have h1 : rest.data.toList.length = rest.size := by simp
            have h2 : L.data.toList.length = L.size := by simp
            have h3 : R.data.toList.length = R.size := by simp
            rw [hLl] at h2; rw [hRl] at h3; rw [hab] at h1; simp at h1; omega
          clear hL hR hb2 h10 HI1
          go_wp2_with fail
          by_cases h32 : (32 : UInt8) ∈ a
          · obtain ⟨p, q, hpq, h32q⟩ := last_dec 32 a h32
            refine (last_yes L w2 p q (by omega) (by rw [hLl]; exact hpq) h32q).mono ?_
            rintro e w2 ⟨rfl, rfl⟩
            have hline : readL add (f - 1 + 1) sum (a ++ 10 :: b) (m + 1) st = RES := by rw [← hab, show f - 1 + 1 = f by have := HF.out.1; omega]; exact HF.out.2
            have HLINE := Lib.hid ((readL_line add (f - 1) sum (m + 1) st a b p q h10a hpq h32q).symm.trans hline)
            have hps : p.length + q.length + 1 = L.size := by
              have h2 : L.data.toList.length = L.size := by simp
              rw [hLl, hpq] at h2; simp at h2; omega
            obtain ⟨pn, hpn⟩ : ∃ pn, pn = p.length := ⟨_, rfl⟩
            rw [← hpn] at hps ⊢
            have hQ : (L.extract (pn + 1) L.size).data.toList = q := by
              rw [ByteArray.data_extract, Array.toList_extract, List.extract_eq_take_drop, hLl, hpq, hpn]
              have h1 : (p ++ 32 :: q).drop (p.length + 1) = q := by rw [show p ++ 32 :: q = (p ++ [32]) ++ q by simp]; exact List.drop_left' (by simp)
              rw [h1]; exact List.take_of_length_le (by omega)
            have hP : (L.extract 0 pn).data.toList = p := by
              rw [ByteArray.data_extract, Array.toList_extract, List.extract_eq_take_drop, hLl, hpq, hpn]; simp
            have HNQ : Hid (∀ W : World, Env W → Calls Tryz.prog 12 #[.slice (some ⟨W.heap.size, 0, none⟩) 1 1] (W.alloc (.cells #[.string (L.extract (pn + 1) L.size)] 9)) (NumsPost (W.alloc (.cells #[.string (L.extract (pn + 1) L.size)] 9)) [q])) := Lib.hid (fun W hW => by
              have := pnumbers_any _ 1 [L.extract (pn + 1) L.size] (W.alloc (.cells #[.string (L.extract (pn + 1) L.size)] 9)) (hW.step (below_alloc _ _)) (rd_one Value.string W (L.extract (pn + 1) L.size) 9) (by simp) (fun z hz => by obtain rfl := List.mem_singleton.1 hz; rw [ByteArray.size_extract]; omega)
              simp only [List.map_cons, List.map_nil, hQ] at this; exact this)
            have w_1 : IntKind.i64.wrap ((pn : Int) + 1) = (pn : Int) + 1 := IntWalk.i64_in _ (by omega)
            have HSP : Hid (∀ W : World, Env W → Calls Tryz.prog 24 #[.string (L.extract 0 pn), .string ⟨#[32]⟩] W fun e w' => Below W.heap.size W w' ∧ ∃ ss : List ByteArray, e = .returned (.slice (some ⟨W.heap.size, 0, none⟩) ss.length ss.length) ∧ ss.map (·.data.toList) = splitC 32 p ∧ Rd Value.string w' (some ⟨W.heap.size, 0, none⟩) ss) := Lib.hid (fun W hW => by
              have := split_any (L.extract 0 pn) W hW (by rw [ByteArray.size_extract]; omega)
              rw [hP] at this; exact this)
            have hpl : p.length ≤ 30000 := by omega
            have HPL := Lib.hid hpl
            have HPN : Hid (pn = p.length) := Lib.hid hpn
            have HF1 : Hid (rest.size < f) := Lib.hid HF.out.1
            clear h32 HF hpn hpl hline
            go_wp2_with fail
            refine (HNQ.out w2 HI2.out.env).mono ?_
            rintro e w3 ⟨hb3, hp3⟩
            have HI3 := Lib.hid (HI2.out.step HT.out (below_then (below_alloc w2 _) hb3 (Nat.le_refl _)))
            rw [nums_one] at hp3
            clear hb3
            cases hq : num q with
            | none =>
              rw [hq] at hp3
              obtain rfl := hp3
              have HERR : Hid (RES = .error (m + 1, 103)) := Lib.hid (by
                rw [← HLINE.out, hq]; split <;> rfl)
              clear hq
              go_wp2_with fail
              refine (HSP.out w3 HI3.out.env).mono ?_
              rintro e w4 ⟨hb4, ss, rfl, hss, hrd⟩
              have HI4 := Lib.hid (HI3.out.step HT.out hb4)
              clear hb4 hrd hss
              go_wp2
              go_ret2
              exact unPost_err HI4.out.below (HT.out.weak _ _ _ HI4.out.st) (HRES.out ▸ HERR.out) (by simp)
            | some chk =>
              rw [hq] at hp3 HLINE
              obtain ⟨v1, rfl, hv1⟩ := hp3
              obtain ⟨av1, cv1, rfl⟩ := owns_slice hv1
              obtain ⟨b1, o1, rfl, d0⟩ : ∃ b1 o1, av1 = some ⟨b1, o1, none⟩ ∧ w3.cell? ⟨b1, o1, none⟩ = some (.int .i64 chk) := by
                obtain ⟨a', c', e1, _, _, e2, _⟩ := Rd.of_owns (enc := fun n : Int => Value.int .i64 n) hv1
                cases e1
                obtain ⟨b4, o4, ea, _, hc⟩ := e2.ne (by simp)
                exact ⟨b4, o4, ea, hc 0 chk rfl⟩
              have hb1n : w2.heap.size < b1 := by
                obtain ⟨a', c', e1, _, _, _, e3⟩ := Rd.of_owns (enc := fun n : Int => Value.int .i64 n) hv1; cases e1; have := e3 _ _ _ rfl; simp at this; omega
              simp only [List.length_singleton]
              clear hq hv1
              go_wp2_with fail
              refine (HSP.out w3 HI3.out.env).mono ?_
              rintro e w4 ⟨hb4, ss, rfl, hss, hrd⟩
              have HI4 := Lib.hid (HI3.out.step HT.out hb4)
              have d0 := cell_keep hb4 d0
              have hnew : w2.heap.size < w3.heap.size := by
                have := World.block_lt_of_cell? w3 ⟨b1, o1, none⟩ (by assumption); simp at this; omega
              clear hb4
              obtain ⟨x0, r, rfl⟩ : ∃ x0 r, ss = x0 :: r := by
                cases ss with
                | nil => exact absurd hss.symm (splitC_ne 32 p)
                | cons x r => exact ⟨x, r, rfl⟩
              have hlen := (splitC_len 32 p).1
              have hwl := (splitC_len 32 p).2
              rw [← hss] at hlen hwl
              simp only [List.length_map] at hlen
              have hrd4 := hrd.resolve_left (by simp)
              obtain ⟨b4, o4, ea, hbl4, hc4⟩ := hrd4
              obtain ⟨rfl, rfl⟩ : w3.heap.size = b4 ∧ 0 = o4 := by cases ea; exact ⟨rfl, rfl⟩
              have q0 : w4.cell? ⟨w3.heap.size, 0, none⟩ = some (.string x0) := hc4 0 x0 rfl
              obtain ⟨n, hn⟩ : ∃ n, n = (x0 :: r).length := ⟨_, rfl⟩
              have hnr : n = r.length + 1 := by rw [hn]; rfl
              obtain ⟨a1, ha1⟩ : ∃ a1 : Option Addr, (if n = 1 then some (⟨w3.heap.size, 0, none⟩ : Addr) else some ⟨w3.heap.size, 1, none⟩) = a1 := ⟨_, rfl⟩
              have hcut : Rd Value.string w4 a1 r := by rw [← ha1]; exact Rd.cut (k := 1) (c := n) hc4 hbl4 (by omega)
              have HPL2 := HPL.out
              have HNS : Hid (Calls Tryz.prog 12 #[.slice a1 (n - 1) (n - 1)] w4 (NumsPost w4 (splitC 32 p).tail)) := Lib.hid (by
                have := pnumbers_any a1 (n - 1) r w4 HI4.out.env hcut (by simp at hlen; omega) (fun z hz => by
                  have h1 := hwl z.data.toList (List.mem_map_of_mem (List.mem_cons_of_mem _ hz))
                  have h2 : z.data.toList.length = z.size := by simp
                  omega)
                rw [← hss, show n - 1 = r.length by omega]; rw [show n - 1 = r.length by omega] at this; exact this)
              have HNR := Lib.hid hnr
              have HSS := Lib.hid hss
              have HRD := Lib.hid hrd
              have HWL : Hid (∀ z ∈ x0 :: r, z.size ≤ 1000000000) := Lib.hid (fun z hz => by
                  have h1 := hwl z.data.toList (List.mem_map_of_mem hz)
                  have h2 : z.data.toList.length = z.size := by simp
                  omega)
              have HLEN : Hid ((x0 :: r).length ≤ 1000000000) := Lib.hid (by omega)
              rw [← hn]
              have h1n : 1 ≤ n := by omega
              have hn9 : n ≤ 1000000000 := by rw [hn]; exact HLEN.out
              clear hn hss hrd hlen hwl hc4 hcut HPL2 hnr
              by_cases hx0 : x0.data.toList = []
              · have hE0 : x0.toList.isEmpty = true := by rw [toList_data, hx0]; rfl
                have HERR : Hid (RES = .error (m + 1, 103)) := Lib.hid (by
                  rw [← HLINE.out, if_pos (by rw [← HSS.out, ← hx0]; simp)])
                clear hx0
                go_wp2
                go_ret2
                exact unPost_err HI4.out.below (HT.out.weak _ _ _ HI4.out.st) (HRES.out ▸ HERR.out) (by simp)
              · have hE0 : x0.toList.isEmpty = false := by
                  rw [toList_data]; cases h : x0.data.toList with
                  | nil => exact absurd h hx0
                  | cons x r => rfl
                have HX0 := Lib.hid hx0
                clear hx0
                have HPe : Hid ((L.extract 0 pn).data.toList = p ∧ (L.extract 0 pn).size ≤ 1000000000) := Lib.hid ⟨hP, by rw [ByteArray.size_extract]; omega⟩
                have HSUM : Hid (∀ W : World, W.heap[K]? = some (.cells #[.int .i64 sum] 3 (0, 0)) → Calls Tryz.prog 36 #[.string (L.extract 0 pn), .pointer (some ⟨K, 0, none⟩)] W fun e w' => e = .returned (.int .i64 (sumL sum p)) ∧ Only (fun k => k = K) W w' ∧ w'.heap[K]? = some (.cells #[.int .i64 (sumL sum p)] 3 (0, 0))) := Lib.hid (fun W hW => by
                  have := knots1_any (L.extract 0 pn) K sum W hW HI4.out.bd.1 HI4.out.bd.2 HPe.out.2
                  rw [HPe.out.1] at this; exact this)
                have hpI : (pn : Int) ≤ (L.size : Int) := by omega
                have hpI0 : (0 : Int) ≤ (pn : Int) := by omega
                have hKb1 : ¬ b1 = K := by have := HI2.out.size.2; omega
                have hOb1 : ¬ O b1 := fun h => by have := (HT.out.low _ _ _ HI2.out.st b1 h).2; omega
                go_wp2_with fail
                refine HNS.out.mono ?_
                rintro e w5 ⟨hb5, hp5⟩
                have HI5 := Lib.hid (HI4.out.step HT.out hb5)
                have d0 := cell_keep hb5 d0
                have HRD5 := Lib.hid (HRD.out.step hb5)
                have HOW4 := Lib.hid hb5
                clear hb5 q0
                by_cases hE : x0.data.toList = [69]
                · have hEb : (x0.toList == [69]) = true := by rw [toList_data, hE]; rfl
                  have HH : Hid ((splitC 32 p).head? = some [69]) := Lib.hid (by rw [← HSS.out, ← hE]; rfl)
                  clear hE
                  cases hx : nums (splitC 32 p).tail with
                  | none =>
                    rw [hx] at hp5
                    obtain rfl := hp5
                    have HERR : Hid (RES = .error (m + 1, 103)) := Lib.hid (by
                      rw [← HLINE.out]; split
                      · rfl
                      · rw [if_pos HH.out, hx])
                    clear hx
                    go_wp2
                    go_ret2
                    exact unPost_err HI5.out.below (HT.out.weak _ _ _ HI5.out.st) (HRES.out ▸ HERR.out) (by simp)
                  | some ns =>
                    rw [hx] at hp5
                    obtain ⟨v5, rfl, hv5⟩ := hp5
                    obtain ⟨av5, cv5, rfl⟩ := owns_slice hv5
                    have hnoe : [] ∉ splitC 32 p := fun h => by
                      have h2 : [] ∈ (splitC 32 p).tail := by
                        rw [← HSS.out] at h ⊢
                        simp only [List.map_cons, List.mem_cons, List.tail_cons] at h ⊢
                        rcases h with h | h
                        · exact absurd h.symm HX0.out
                        · exact h
                      rw [nums_empty _ h2] at hx; cases hx
                    have hline2 := HLINE.out
                    rw [if_neg hnoe] at hline2
                    rw [if_pos HH.out, hx] at hline2
                    have HL2 := Lib.hid hline2
                    clear hx hnoe hline2 HLINE
                    by_cases h1 : ns.length = 1
                    · rw [h1]
                      obtain ⟨x, rfl⟩ : ∃ x, ns = [x] := List.length_eq_one_iff.1 h1
                      obtain ⟨b5, o5, rfl, e0⟩ : ∃ b5 o5, av5 = some ⟨b5, o5, none⟩ ∧ w5.cell? ⟨b5, o5, none⟩ = some (.int .i64 x) := by
                        obtain ⟨a', c', e1, _, _, e2, _⟩ := Rd.of_owns (enc := fun n : Int => Value.int .i64 n) hv5
                        cases e1
                        obtain ⟨b4, o4, ea, _, hc⟩ := e2.ne (by simp)
                        exact ⟨b4, o4, ea, hc 0 x rfl⟩
                      have hKb5 : ¬ b5 = K := by
                        obtain ⟨a', c', e1, _, _, _, e3⟩ := Rd.of_owns (enc := fun n : Int => Value.int .i64 n) hv5; cases e1; have := e3 _ _ _ rfl; have := HI4.out.size.2; omega
                      clear hv5 h1
                      by_cases hb0 : b = []
                      · have hRE : R.toList.isEmpty = true := by rw [toList_data, hRl, hb0]; rfl
                        have HL3 : Hid ((if chk = sumL sum p ∧ x = ((m + 1 : Nat) : Int) - 1 then Except.ok st else Except.error (m + 1, 104)) = RES) := Lib.hid (by rw [← HL2.out]; simp [hb0])
                        obtain ⟨S, hS⟩ : ∃ S, S = sumL sum p := ⟨_, rfl⟩
                        have HBX : Hid (w5.drew.heap[K]? = some (.cells #[.int .i64 sum] 3 (0, 0))) := Lib.hid HI5.out.box
                        rw [← hS] at HL3 HSUM
                        have HBD : Hid (0 ≤ S ∧ S < 8191) := Lib.hid (by rw [hS]; exact sumL_bd _ _ HI5.out.bd.1 HI5.out.bd.2)
                        clear hb0 HL2 hS
                        have w_2 : IntKind.i64.wrap ((m : Int) + 1 - 1) = (m : Int) := by rw [IntWalk.i64_in _ (by omega)]; omega
                        have w_3 : IntKind.i64.wrap (m : Int) = (m : Int) := IntWalk.i64_in _ (by omega)
                        by_cases hr : chk = S
                        · have hSc : (S != chk) = false := by simp [hr]
                          by_cases hxm : x = (m : Int)
                          · have hxb : (x != (m : Int)) = false := by simp [hxm]
                            have HOK : Hid (RES = .ok st) := Lib.hid (by rw [← HL3.out, if_pos ⟨hr, by omega⟩])
                            clear HL3 hr hxm
                            go_wp2_with fail
                            first | go_region_held3 (fun W => W.cell? ⟨b1, o1, none⟩ = some (.int .i64 chk) ∧ W.cell? ⟨b5, o5, none⟩ = some (.int .i64 x)) (go_keep) (first | (go_at_call 36; refine (HSUM.out _ HBX.out).mono ?_; rintro e w7 ⟨rfl, ho7, hbx7⟩; have d7 : w7.cell? ⟨b1, o1, none⟩ = some (.int .i64 chk) := ho7.cell (p := ⟨b1, o1, none⟩) hKb1 d0; have e7 : w7.cell? ⟨b5, o5, none⟩ = some (.int .i64 x) := ho7.cell (p := ⟨b5, o5, none⟩) hKb5 e0)) | fail
                            all_goals
                              have HI7 := Lib.hid ((HI5.out.step HT.out ((Below.refl w5.heap.size w5).drew)).sum HT.out ho7 hbx7 HBD.out)
                              clear ho7 hbx7
                              go_wp2
                              go_ret2
                              exact unPost_ok HI7.out.below (HRES.out ▸ HOK.out) rfl HI7.out.st
                          · have hxb : (x != (m : Int)) = true := by simp [hxm]
                            have HERR : Hid (RES = .error (m + 1, 104)) := Lib.hid (by rw [← HL3.out, if_neg (fun h => hxm (by omega))])
                            clear HL3 hr hxm
                            go_wp2_with fail
                            first | go_region_held3 (fun W => W.cell? ⟨b1, o1, none⟩ = some (.int .i64 chk) ∧ W.cell? ⟨b5, o5, none⟩ = some (.int .i64 x)) (go_keep) (first | (go_at_call 36; refine (HSUM.out _ HBX.out).mono ?_; rintro e w7 ⟨rfl, ho7, hbx7⟩; have d7 : w7.cell? ⟨b1, o1, none⟩ = some (.int .i64 chk) := ho7.cell (p := ⟨b1, o1, none⟩) hKb1 d0; have e7 : w7.cell? ⟨b5, o5, none⟩ = some (.int .i64 x) := ho7.cell (p := ⟨b5, o5, none⟩) hKb5 e0)) | fail
                            all_goals
                              have HI7 := Lib.hid ((HI5.out.step HT.out ((Below.refl w5.heap.size w5).drew)).sum HT.out ho7 hbx7 HBD.out)
                              clear ho7 hbx7
                              go_wp2
                              go_ret2
                              exact unPost_err HI7.out.below (HT.out.weak _ _ _ HI7.out.st) (HRES.out ▸ HERR.out) (by simp)
                        · have hSc : (S != chk) = true := by simp; exact fun e => hr e.symm
                          have HERR : Hid (RES = .error (m + 1, 104)) := Lib.hid (by rw [← HL3.out, if_neg (fun h => hr h.1)])
                          clear HL3 hr
                          go_wp2_with fail
                          refine wp_region_held_drew (S := fun W => W.cell? ⟨b1, o1, none⟩ = some (.int .i64 chk)) (by kernel_rfl) d0 (fun hHeld => ?_)
                          refine wpAnyH_take (i := 0) (oi := ⟨some 102, _, _, _, _, _⟩) (v := ?_) rfl (by kernel_rfl) (by kernel_rfl) (by kernel_rfl) (fun _ _ _ h => h) (Or.inl ⟨by rfl, ?_⟩) (by assumption) ?_
                          rotate_left 1
                          · (intro w hSw; (try dsimp only at hSw); go_simp; (try with_reducible rfl))
                          simp only [Act.put, List.setIfInBounds_toArray, List.set_cons_zero, List.set_cons_succ]
                          refine wpAnyH_take (i := 1) (oi := ⟨some 103, _, _, _, _, _⟩) (v := ?_) rfl (by kernel_rfl) (by kernel_rfl) (by kernel_rfl) (fun _ _ _ h => h) (Or.inl ⟨by rfl, ?_⟩) (by assumption) ?_
                          rotate_left 1
                          · (intro w hSw; (try dsimp only at hSw); go_simp; (try with_reducible rfl))
                          simp only [Act.put, List.setIfInBounds_toArray, List.set_cons_zero, List.set_cons_succ]
                          refine wpAnyH_take (i := 2) (oi := ⟨some 104, _, _, _, _, _⟩) (v := ?_) rfl (by kernel_rfl) (by kernel_rfl) (by kernel_rfl) (fun _ _ _ h => h) (Or.inl ⟨by rfl, ?_⟩) (by assumption) ?_
                          rotate_left 1
                          · (intro w hSw; (try dsimp only at hSw); go_simp; (try with_reducible rfl))
                          simp only [Act.put, List.setIfInBounds_toArray, List.set_cons_zero, List.set_cons_succ]
                          refine wpAnyH_take (i := 3) (oi := ⟨some 105, _, _, _, _, _⟩) (v := ?_) rfl (by kernel_rfl) (by kernel_rfl) (by kernel_rfl) (fun _ _ _ h => h) (Or.inl ⟨by rfl, ?_⟩) (by assumption) ?_
                          rotate_left 1
                          · (intro w hSw; (try dsimp only at hSw); go_simp; (try with_reducible rfl))
                          simp only [Act.put, List.setIfInBounds_toArray, List.set_cons_zero, List.set_cons_succ]
                          refine wpAnyH_take (i := 5) (oi := ⟨some 107, _, _, _, _, _⟩) (v := ?_) rfl (by kernel_rfl) (by kernel_rfl) (by kernel_rfl) (fun _ _ _ h => h) (Or.inl ⟨by rfl, ?_⟩) (by assumption) ?_
                          rotate_left 1
                          · (intro w hSw; (try dsimp only at hSw); go_simp; (try with_reducible rfl))
                          simp only [Act.put, List.setIfInBounds_toArray, List.set_cons_zero, List.set_cons_succ]
                          refine wpAnyH_take (i := 6) (oi := ⟨some 108, _, _, _, _, _⟩) (v := ?_) rfl (by kernel_rfl) (by kernel_rfl) (by kernel_rfl) (fun _ _ _ h => h) (Or.inl ⟨by rfl, ?_⟩) (by assumption) ?_
                          rotate_left 1
                          · (intro w hSw; (try dsimp only at hSw); go_simp; (try with_reducible rfl))
                          simp only [Act.put, List.setIfInBounds_toArray, List.set_cons_zero, List.set_cons_succ]
                          refine wpAnyH_take (i := 7) (oi := ⟨some 109, _, _, _, _, _⟩) (v := ?_) rfl (by kernel_rfl) (by kernel_rfl) (by kernel_rfl) (fun _ _ _ h => h) (Or.inl ⟨by rfl, ?_⟩) (by assumption) ?_
                          rotate_left 1
                          · (intro w hSw; (try dsimp only at hSw); go_simp; (try with_reducible rfl))
                          simp only [Act.put, List.setIfInBounds_toArray, List.set_cons_zero, List.set_cons_succ]
                          refine wpAnyH_ready (rs := [4]) (by kernel_rfl) (by simp) ?_
                          refine AllReadyH.cons rfl (fun K' hK => ?_) AllReadyH.nil
                          go_simp
                          refine (HSUM.out _ HBX.out).mono ?_
                          rintro e w7 ⟨rfl, ho7, hbx7⟩
                          have d7 : w7.cell? ⟨b1, o1, none⟩ = some (.int .i64 chk) := ho7.cell (p := ⟨b1, o1, none⟩) hKb1 d0
                          refine hK.out _ _ d7 (fun hHeld7 => ?_)
                          clear hK K'
                          refine wpAnyH_take (i := 8) (oi := ⟨some 110, _, _, _, _, _⟩) (v := ?_) rfl (by kernel_rfl) (by kernel_rfl) (by kernel_rfl) (fun _ _ _ h => h) (Or.inl ⟨by rfl, ?_⟩) (by assumption) ?_
                          rotate_left 1
                          · (intro w hSw; (try dsimp only at hSw); go_simp; (try with_reducible rfl))
                          simp only [Act.put, List.setIfInBounds_toArray, List.set_cons_zero, List.set_cons_succ]
                          refine wpAnyH_take (i := 9) (oi := ⟨some 111, _, _, _, _, _⟩) (v := ?_) rfl (by kernel_rfl) (by kernel_rfl) (by kernel_rfl) (fun _ _ _ h => h) (Or.inl ⟨by rfl, ?_⟩) (by assumption) ?_
                          rotate_left 1
                          · (intro w hSw; (try dsimp only at hSw); go_simp; (try with_reducible rfl))
                          simp only [Act.put, List.setIfInBounds_toArray, List.set_cons_zero, List.set_cons_succ]
                          refine wpAnyH_take (i := 10) (oi := ⟨some 112, _, _, _, _, _⟩) (v := undef) rfl (by kernel_rfl) (by kernel_rfl) (by kernel_rfl) (fun _ _ _ h => h) (Or.inr ⟨by rfl, rfl⟩) (by assumption) ?_
                          simp only [Act.put, List.setIfInBounds_toArray, List.set_cons_zero, List.set_cons_succ]
                          refine wpAnyH_take (i := 11) (oi := ⟨some 113, _, _, _, _, _⟩) (v := undef) rfl (by kernel_rfl) (by kernel_rfl) (by kernel_rfl) (fun _ _ _ h => h) (Or.inr ⟨by rfl, rfl⟩) (by assumption) ?_
                          simp only [Act.put, List.setIfInBounds_toArray, List.set_cons_zero, List.set_cons_succ]
                          refine wpAnyH_take (i := 12) (oi := ⟨some 114, _, _, _, _, _⟩) (v := undef) rfl (by kernel_rfl) (by kernel_rfl) (by kernel_rfl) (fun _ _ _ h => h) (Or.inr ⟨by rfl, rfl⟩) (by assumption) ?_
                          simp only [Act.put, List.setIfInBounds_toArray, List.set_cons_zero, List.set_cons_succ]
                          refine wpAnyH_take (i := 13) (oi := ⟨some 115, _, _, _, _, _⟩) (v := undef) rfl (by kernel_rfl) (by kernel_rfl) (by kernel_rfl) (fun _ _ _ h => h) (Or.inr ⟨by rfl, rfl⟩) (by assumption) ?_
                          simp only [Act.put, List.setIfInBounds_toArray, List.set_cons_zero, List.set_cons_succ]
                          refine wpAnyH_take (i := 14) (oi := ⟨some 116, _, _, _, _, _⟩) (v := undef) rfl (by kernel_rfl) (by kernel_rfl) (by kernel_rfl) (fun _ _ _ h => h) (Or.inr ⟨by rfl, rfl⟩) (by assumption) ?_
                          simp only [Act.put, List.setIfInBounds_toArray, List.set_cons_zero, List.set_cons_succ]
                          refine wpAnyH_take (i := 15) (oi := ⟨some 117, _, _, _, _, _⟩) (v := undef) rfl (by kernel_rfl) (by kernel_rfl) (by kernel_rfl) (fun _ _ _ h => h) (Or.inr ⟨by rfl, rfl⟩) (by assumption) ?_
                          simp only [Act.put, List.setIfInBounds_toArray, List.set_cons_zero, List.set_cons_succ]
                          refine wpAnyH_take (i := 16) (oi := ⟨some 118, _, _, _, _, _⟩) (v := undef) rfl (by kernel_rfl) (by kernel_rfl) (by kernel_rfl) (fun _ _ _ h => h) (Or.inr ⟨by rfl, rfl⟩) (by assumption) ?_
                          simp only [Act.put, List.setIfInBounds_toArray, List.set_cons_zero, List.set_cons_succ]
                          refine wpAnyH_take (i := 17) (oi := ⟨some 119, _, _, _, _, _⟩) (v := undef) rfl (by kernel_rfl) (by kernel_rfl) (by kernel_rfl) (fun _ _ _ h => h) (Or.inr ⟨by rfl, rfl⟩) (by assumption) ?_
                          simp only [Act.put, List.setIfInBounds_toArray, List.set_cons_zero, List.set_cons_succ]
                          refine wpAnyH_take (i := 18) (oi := ⟨some 120, _, _, _, _, _⟩) (v := undef) rfl (by kernel_rfl) (by kernel_rfl) (by kernel_rfl) (fun _ _ _ h => h) (Or.inr ⟨by rfl, rfl⟩) (by assumption) ?_
                          simp only [Act.put, List.setIfInBounds_toArray, List.set_cons_zero, List.set_cons_succ]
                          refine wpAnyH_take (i := 19) (oi := ⟨some 121, _, _, _, _, _⟩) (v := ?_) rfl (by kernel_rfl) (by kernel_rfl) (by kernel_rfl) (fun _ _ _ h => h) (Or.inl ⟨by rfl, ?_⟩) (by assumption) ?_
                          rotate_left 1
                          · (intro w hSw; (try dsimp only at hSw); go_simp; (try with_reducible rfl))
                          simp only [Act.put, List.setIfInBounds_toArray, List.set_cons_zero, List.set_cons_succ]
                          refine wpAnyH_take (i := 20) (oi := ⟨some 101, _, _, _, _, _⟩) (v := ?_) rfl (by kernel_rfl) (by kernel_rfl) (by kernel_rfl) (fun _ _ _ h => h) (Or.inl ⟨by rfl, ?_⟩) (by assumption) ?_
                          rotate_left 1
                          · (intro w hSw; (try dsimp only at hSw); go_simp; (try with_reducible rfl))
                          simp only [Act.put, List.setIfInBounds_toArray, List.set_cons_zero, List.set_cons_succ]
                          refine wpAnyH_done (by kernel_rfl) ?_ _
                          have HI7 := Lib.hid ((HI5.out.step HT.out ((Below.refl w5.heap.size w5).drew)).sum HT.out ho7 hbx7 HBD.out)
                          clear ho7 hbx7
                          go_wp2
                          go_ret2
                          exact unPost_err HI7.out.below (HT.out.weak _ _ _ HI7.out.st) (HRES.out ▸ HERR.out) (by simp)
                      · have hRE : R.toList.isEmpty = false := by
                          rw [toList_data, hRl]; cases h : b with
                          | nil => exact absurd h hb0
                          | cons x r => rfl
                        have HERR : Hid (RES = .error (m + 1, 103)) := Lib.hid (by rw [← HL2.out]; simp [hb0])
                        clear hb0 HL2
                        go_wp2
                        go_ret2
                        exact unPost_err HI5.out.below (HT.out.weak _ _ _ HI5.out.st) (HRES.out ▸ HERR.out) (by simp)
                    · have hn1 : ((ns.length : Int) != 1) = true := by simp; omega
                      have HERR : Hid (RES = .error (m + 1, 103)) := Lib.hid (by
                        rw [← HL2.out]
                        match ns, h1 with
                        | [], _ => rfl
                        | [_], h => exact absurd rfl h
                        | _ :: _ :: _, _ => rfl)
                      clear HL2 hv5 h1
                      go_wp2
                      go_ret2
                      exact unPost_err HI5.out.below (HT.out.weak _ _ _ HI5.out.st) (HRES.out ▸ HERR.out) (by simp)
                · have hEb : (x0.toList == [69]) = false := beq_eq_false_iff_ne.2 (by rw [toList_data]; exact hE)
                  have HH : Hid ((splitC 32 p).head? ≠ some [69]) := Lib.hid (by rw [← HSS.out]; simpa using hE)
                  clear hE
                  obtain ⟨v5, c5, rfl⟩ : ∃ v c, e = .returned (.tuple #[v, .bool c]) := by
                    cases hx : nums (splitC 32 p).tail with
                    | none => rw [hx] at hp5; exact ⟨_, _, hp5⟩
                    | some ns => rw [hx] at hp5; obtain ⟨v, hv, _⟩ := hp5; exact ⟨_, _, hv⟩
                  clear hp5
                  have htk := HT.out.call (some ⟨w3.heap.size, 0, none⟩) n (x0 :: r) st O w5 HI5.out.env HI5.out.st HRD5.out (by simp) (by rw [HNR.out]; simp) HLEN.out HWL.out
                  rw [show (x0 :: r).length = n from HNR.out.symm, HSS.out] at htk
                  have HTK := Lib.hid htk
                  clear htk
                  have hrun := HT.out.run
                  go_wp2_with fail
                  clear hrun
                  refine HTK.out.mono ?_
                  rintro e w6 ⟨ho6, hp6⟩
                  have d0 : w6.cell? ⟨b1, o1, none⟩ = some (.int .i64 chk) := ho6.cell (p := ⟨b1, o1, none⟩) hOb1 d0
                  cases hA : add st (splitC 32 p) with
                  | none =>
                    rw [hA] at hp6
                    simp only at hp6
                    obtain ⟨rfl, hwk⟩ := hp6
                    have HWK := Lib.hid hwk
                    have HERR : Hid (RES = .error (m + 1, 103)) := Lib.hid (by
                      rw [← HLINE.out, if_neg HH.out, hA]; split <;> rfl)
                    have HB6 : Hid (Below base w w6) := Lib.hid (HI5.out.below.trans (ho6.below (fun k hk => (HT.out.low _ _ _ HI5.out.st k hk).1) HI5.out.size.1))
                    clear hA ho6 hwk
                    go_wp2
                    go_ret2
                    exact unPost_err HB6.out HWK.out (HRES.out ▸ HERR.out) (by simp)
                  | some st' =>
                    rw [hA] at hp6
                    simp only at hp6
                    obtain ⟨rfl, O', hst6, hO6⟩ := hp6
                    have HI6 := Lib.hid (HI5.out.take HT.out ho6 hst6 hO6)
                    have hnoe : [] ∉ splitC 32 p := fun h => by
                      have := HT.out.empty st (splitC 32 p) h (by rw [← HSS.out]; simpa using HX0.out)
                      rw [this] at hA; cases hA
                    have hline2 := HLINE.out
                    rw [if_neg hnoe, if_neg HH.out, hA] at hline2
                    simp only at hline2
                    have HL2 := Lib.hid hline2
                    clear hA ho6 hst6 hO6 hnoe hline2 HLINE
                    obtain ⟨S, hS⟩ : ∃ S, S = sumL sum p := ⟨_, rfl⟩
                    have HBX : Hid (w6.drew.heap[K]? = some (.cells #[.int .i64 sum] 3 (0, 0))) := Lib.hid HI6.out.box
                    have HBD : Hid (0 ≤ S ∧ S < 8191) := Lib.hid (by rw [hS]; exact sumL_bd _ _ HI6.out.bd.1 HI6.out.bd.2)
                    rw [← hS] at HL2 HSUM
                    clear hS
                    by_cases hr : chk = S
                    · have hSc : (S != chk) = false := by simp [hr]
                      have HL3 : Hid (readL add (f - 1) (sumL S (32 :: q ++ [10])) b (m + 1 + 1) st' = RES) := Lib.hid (by rw [← HL2.out, if_pos hr])
                      clear HL2 hr
                      go_wp2_with fail
                      refine wp_region_held_drew (S := fun W => W.cell? ⟨b1, o1, none⟩ = some (.int .i64 chk)) (by kernel_rfl) d0 (fun hHeld => ?_)
                      refine wpAnyH_take (i := 0) (oi := ⟨some 102, _, _, _, _, _⟩) (v := ?_) rfl (by kernel_rfl) (by kernel_rfl) (by kernel_rfl) (fun _ _ _ h => h) (Or.inl ⟨by rfl, ?_⟩) (by assumption) ?_
                      rotate_left 1
                      · (intro w hSw; (try dsimp only at hSw); go_simp; (try with_reducible rfl))
                      simp only [Act.put, List.setIfInBounds_toArray, List.set_cons_zero, List.set_cons_succ]
                      refine wpAnyH_take (i := 1) (oi := ⟨some 103, _, _, _, _, _⟩) (v := ?_) rfl (by kernel_rfl) (by kernel_rfl) (by kernel_rfl) (fun _ _ _ h => h) (Or.inl ⟨by rfl, ?_⟩) (by assumption) ?_
                      rotate_left 1
                      · (intro w hSw; (try dsimp only at hSw); go_simp; (try with_reducible rfl))
                      simp only [Act.put, List.setIfInBounds_toArray, List.set_cons_zero, List.set_cons_succ]
                      refine wpAnyH_take (i := 2) (oi := ⟨some 104, _, _, _, _, _⟩) (v := ?_) rfl (by kernel_rfl) (by kernel_rfl) (by kernel_rfl) (fun _ _ _ h => h) (Or.inl ⟨by rfl, ?_⟩) (by assumption) ?_
                      rotate_left 1
                      · (intro w hSw; (try dsimp only at hSw); go_simp; (try with_reducible rfl))
                      simp only [Act.put, List.setIfInBounds_toArray, List.set_cons_zero, List.set_cons_succ]
                      refine wpAnyH_take (i := 3) (oi := ⟨some 105, _, _, _, _, _⟩) (v := ?_) rfl (by kernel_rfl) (by kernel_rfl) (by kernel_rfl) (fun _ _ _ h => h) (Or.inl ⟨by rfl, ?_⟩) (by assumption) ?_
                      rotate_left 1
                      · (intro w hSw; (try dsimp only at hSw); go_simp; (try with_reducible rfl))
                      simp only [Act.put, List.setIfInBounds_toArray, List.set_cons_zero, List.set_cons_succ]
                      refine wpAnyH_take (i := 5) (oi := ⟨some 107, _, _, _, _, _⟩) (v := ?_) rfl (by kernel_rfl) (by kernel_rfl) (by kernel_rfl) (fun _ _ _ h => h) (Or.inl ⟨by rfl, ?_⟩) (by assumption) ?_
                      rotate_left 1
                      · (intro w hSw; (try dsimp only at hSw); go_simp; (try with_reducible rfl))
                      simp only [Act.put, List.setIfInBounds_toArray, List.set_cons_zero, List.set_cons_succ]
                      refine wpAnyH_take (i := 6) (oi := ⟨some 108, _, _, _, _, _⟩) (v := ?_) rfl (by kernel_rfl) (by kernel_rfl) (by kernel_rfl) (fun _ _ _ h => h) (Or.inl ⟨by rfl, ?_⟩) (by assumption) ?_
                      rotate_left 1
                      · (intro w hSw; (try dsimp only at hSw); go_simp; (try with_reducible rfl))
                      simp only [Act.put, List.setIfInBounds_toArray, List.set_cons_zero, List.set_cons_succ]
                      refine wpAnyH_take (i := 7) (oi := ⟨some 109, _, _, _, _, _⟩) (v := ?_) rfl (by kernel_rfl) (by kernel_rfl) (by kernel_rfl) (fun _ _ _ h => h) (Or.inl ⟨by rfl, ?_⟩) (by assumption) ?_
                      rotate_left 1
                      · (intro w hSw; (try dsimp only at hSw); go_simp; (try with_reducible rfl))
                      simp only [Act.put, List.setIfInBounds_toArray, List.set_cons_zero, List.set_cons_succ]
                      refine wpAnyH_ready (rs := [4]) (by kernel_rfl) (by simp) ?_
                      refine AllReadyH.cons rfl (fun K' hK => ?_) AllReadyH.nil
                      go_simp
                      refine (HSUM.out _ HBX.out).mono ?_
                      rintro e w7 ⟨rfl, ho7, hbx7⟩
                      have d7 : w7.cell? ⟨b1, o1, none⟩ = some (.int .i64 chk) := ho7.cell (p := ⟨b1, o1, none⟩) hKb1 d0
                      refine hK.out _ _ d7 (fun hHeld7 => ?_)
                      clear hK K'
                      refine wpAnyH_take (i := 8) (oi := ⟨some 110, _, _, _, _, _⟩) (v := ?_) rfl (by kernel_rfl) (by kernel_rfl) (by kernel_rfl) (fun _ _ _ h => h) (Or.inl ⟨by rfl, ?_⟩) (by assumption) ?_
                      rotate_left 1
                      · (intro w hSw; (try dsimp only at hSw); go_simp; (try with_reducible rfl))
                      simp only [Act.put, List.setIfInBounds_toArray, List.set_cons_zero, List.set_cons_succ]
                      refine wpAnyH_take (i := 9) (oi := ⟨some 111, _, _, _, _, _⟩) (v := ?_) rfl (by kernel_rfl) (by kernel_rfl) (by kernel_rfl) (fun _ _ _ h => h) (Or.inl ⟨by rfl, ?_⟩) (by assumption) ?_
                      rotate_left 1
                      · (intro w hSw; (try dsimp only at hSw); go_simp; (try with_reducible rfl))
                      simp only [Act.put, List.setIfInBounds_toArray, List.set_cons_zero, List.set_cons_succ]
                      refine wpAnyH_take (i := 10) (oi := ⟨some 112, _, _, _, _, _⟩) (v := ?_) rfl (by kernel_rfl) (by kernel_rfl) (by kernel_rfl) (fun _ _ _ h => h) (Or.inl ⟨by rfl, ?_⟩) (by assumption) ?_
                      rotate_left 1
                      · (intro w hSw; (try dsimp only at hSw); go_simp; (try with_reducible rfl))
                      simp only [Act.put, List.setIfInBounds_toArray, List.set_cons_zero, List.set_cons_succ]
                      refine wpAnyH_take (i := 11) (oi := ⟨some 113, _, _, _, _, _⟩) (v := ?_) rfl (by kernel_rfl) (by kernel_rfl) (by kernel_rfl) (fun _ _ _ h => h) (Or.inl ⟨by rfl, ?_⟩) (by assumption) ?_
                      rotate_left 1
                      · (intro w hSw; (try dsimp only at hSw); go_simp; (try with_reducible rfl))
                      simp only [Act.put, List.setIfInBounds_toArray, List.set_cons_zero, List.set_cons_succ]
                      refine wpAnyH_take (i := 12) (oi := ⟨some 114, _, _, _, _, _⟩) (v := undef) rfl (by kernel_rfl) (by kernel_rfl) (by kernel_rfl) (fun _ _ _ h => h) (Or.inr ⟨by rfl, rfl⟩) (by assumption) ?_
                      simp only [Act.put, List.setIfInBounds_toArray, List.set_cons_zero, List.set_cons_succ]
                      refine wpAnyH_take (i := 13) (oi := ⟨some 115, _, _, _, _, _⟩) (v := undef) rfl (by kernel_rfl) (by kernel_rfl) (by kernel_rfl) (fun _ _ _ h => h) (Or.inr ⟨by rfl, rfl⟩) (by assumption) ?_
                      simp only [Act.put, List.setIfInBounds_toArray, List.set_cons_zero, List.set_cons_succ]
                      refine wpAnyH_take (i := 14) (oi := ⟨some 116, _, _, _, _, _⟩) (v := undef) rfl (by kernel_rfl) (by kernel_rfl) (by kernel_rfl) (fun _ _ _ h => h) (Or.inr ⟨by rfl, rfl⟩) (by assumption) ?_
                      simp only [Act.put, List.setIfInBounds_toArray, List.set_cons_zero, List.set_cons_succ]
                      refine wpAnyH_take (i := 15) (oi := ⟨some 117, _, _, _, _, _⟩) (v := undef) rfl (by kernel_rfl) (by kernel_rfl) (by kernel_rfl) (fun _ _ _ h => h) (Or.inr ⟨by rfl, rfl⟩) (by assumption) ?_
                      simp only [Act.put, List.setIfInBounds_toArray, List.set_cons_zero, List.set_cons_succ]
                      refine wpAnyH_take (i := 16) (oi := ⟨some 118, _, _, _, _, _⟩) (v := undef) rfl (by kernel_rfl) (by kernel_rfl) (by kernel_rfl) (fun _ _ _ h => h) (Or.inr ⟨by rfl, rfl⟩) (by assumption) ?_
                      simp only [Act.put, List.setIfInBounds_toArray, List.set_cons_zero, List.set_cons_succ]
                      refine wpAnyH_take (i := 17) (oi := ⟨some 119, _, _, _, _, _⟩) (v := undef) rfl (by kernel_rfl) (by kernel_rfl) (by kernel_rfl) (fun _ _ _ h => h) (Or.inr ⟨by rfl, rfl⟩) (by assumption) ?_
                      simp only [Act.put, List.setIfInBounds_toArray, List.set_cons_zero, List.set_cons_succ]
                      refine wpAnyH_take (i := 18) (oi := ⟨some 120, _, _, _, _, _⟩) (v := ?_) rfl (by kernel_rfl) (by kernel_rfl) (by kernel_rfl) (fun _ _ _ h => h) (Or.inl ⟨by rfl, ?_⟩) (by assumption) ?_
                      rotate_left 1
                      · (intro w hSw; (try dsimp only at hSw); go_simp; (try with_reducible rfl))
                      simp only [Act.put, List.setIfInBounds_toArray, List.set_cons_zero, List.set_cons_succ]
                      refine wpAnyH_take (i := 19) (oi := ⟨some 121, _, _, _, _, _⟩) (v := ?_) rfl (by kernel_rfl) (by kernel_rfl) (by kernel_rfl) (fun _ _ _ h => h) (Or.inl ⟨by rfl, ?_⟩) (by assumption) ?_
                      rotate_left 1
                      · (intro w hSw; (try dsimp only at hSw); go_simp; (try with_reducible rfl))
                      simp only [Act.put, List.setIfInBounds_toArray, List.set_cons_zero, List.set_cons_succ]
                      refine wpAnyH_take (i := 20) (oi := ⟨some 101, _, _, _, _, _⟩) (v := ?_) rfl (by kernel_rfl) (by kernel_rfl) (by kernel_rfl) (fun _ _ _ h => h) (Or.inl ⟨by rfl, ?_⟩) (by assumption) ?_
                      rotate_left 1
                      · (intro w hSw; (try dsimp only at hSw); go_simp; (try with_reducible rfl))
                      simp only [Act.put, List.setIfInBounds_toArray, List.set_cons_zero, List.set_cons_succ]
                      refine wpAnyH_done (by kernel_rfl) ?_ _
                      have HI7 := Lib.hid ((HI6.out.step HT.out ((Below.refl w6.heap.size w6).drew)).sum HT.out ho7 hbx7 HBD.out)
                      clear ho7 hbx7 HSUM HBX
                      have HSUM2 : Hid (∀ W : World, W.heap[K]? = some (.cells #[.int .i64 S] 3 (0, 0)) → Calls Tryz.prog 36 #[.string (L.extract pn L.size ++ ⟨#[10]⟩), .pointer (some ⟨K, 0, none⟩)] W fun e w' => e = .returned (.int .i64 (sumL S (32 :: q ++ [10]))) ∧ Only (fun k => k = K) W w' ∧ w'.heap[K]? = some (.cells #[.int .i64 (sumL S (32 :: q ++ [10]))] 3 (0, 0))) := Lib.hid (fun W hW => by
                        have h1 := knots1_any (L.extract pn L.size ++ ⟨#[10]⟩) K S W hW HBD.out.1 HBD.out.2 (by rw [ByteArray.size_append, ByteArray.size_extract]; show _ + 1 ≤ _; omega)
                        have h2 : (L.extract pn L.size ++ ⟨#[10]⟩).data.toList = 32 :: q ++ [10] := by
                          rw [ByteArray.data_append, Array.toList_append, ByteArray.data_extract, Array.toList_extract, List.extract_eq_take_drop, hLl, hpq]
                          rw [show (p ++ 32 :: q).drop pn = 32 :: q from List.drop_left' HPN.out.symm]
                          rw [List.take_of_length_le (by simp; omega)]
                        rw [h2] at h1; exact h1)
                      go_wp2_with fail
                      refine (HSUM2.out _ HI7.out.box).mono ?_
                      rintro e w8 ⟨rfl, ho8, hbx8⟩
                      have HI8 := Lib.hid (HI7.out.sum HT.out ho8 hbx8 (sumL_bd _ _ HBD.out.1 HBD.out.2))
                      clear ho8 hbx8
                      go_wp2
                      go_roundw
                      case rel => exact ⟨m + 1, f - 1, R, st', O', sumL S (32 :: q ++ [10]), by go_num, rfl, by omega, HI8, Lib.hid ⟨by have := HF1.out; omega, by rw [hRl]; exact HL3.out⟩⟩
                      case measure => simp [strLen]; omega
                    · have hSc : (S != chk) = true := by simp; exact fun e => hr e.symm
                      have HERR : Hid (RES = .error (m + 1, 104)) := Lib.hid (by rw [← HL2.out, if_neg hr])
                      clear HL2 hr
                      go_wp2_with fail
                      refine wp_region_held_drew (S := fun W => W.cell? ⟨b1, o1, none⟩ = some (.int .i64 chk)) (by kernel_rfl) d0 (fun hHeld => ?_)
                      refine wpAnyH_take (i := 0) (oi := ⟨some 102, _, _, _, _, _⟩) (v := ?_) rfl (by kernel_rfl) (by kernel_rfl) (by kernel_rfl) (fun _ _ _ h => h) (Or.inl ⟨by rfl, ?_⟩) (by assumption) ?_
                      rotate_left 1
                      · (intro w hSw; (try dsimp only at hSw); go_simp; (try with_reducible rfl))
                      simp only [Act.put, List.setIfInBounds_toArray, List.set_cons_zero, List.set_cons_succ]
                      refine wpAnyH_take (i := 1) (oi := ⟨some 103, _, _, _, _, _⟩) (v := ?_) rfl (by kernel_rfl) (by kernel_rfl) (by kernel_rfl) (fun _ _ _ h => h) (Or.inl ⟨by rfl, ?_⟩) (by assumption) ?_
                      rotate_left 1
                      · (intro w hSw; (try dsimp only at hSw); go_simp; (try with_reducible rfl))
                      simp only [Act.put, List.setIfInBounds_toArray, List.set_cons_zero, List.set_cons_succ]
                      refine wpAnyH_take (i := 2) (oi := ⟨some 104, _, _, _, _, _⟩) (v := ?_) rfl (by kernel_rfl) (by kernel_rfl) (by kernel_rfl) (fun _ _ _ h => h) (Or.inl ⟨by rfl, ?_⟩) (by assumption) ?_
                      rotate_left 1
                      · (intro w hSw; (try dsimp only at hSw); go_simp; (try with_reducible rfl))
                      simp only [Act.put, List.setIfInBounds_toArray, List.set_cons_zero, List.set_cons_succ]
                      refine wpAnyH_take (i := 3) (oi := ⟨some 105, _, _, _, _, _⟩) (v := ?_) rfl (by kernel_rfl) (by kernel_rfl) (by kernel_rfl) (fun _ _ _ h => h) (Or.inl ⟨by rfl, ?_⟩) (by assumption) ?_
                      rotate_left 1
                      · (intro w hSw; (try dsimp only at hSw); go_simp; (try with_reducible rfl))
                      simp only [Act.put, List.setIfInBounds_toArray, List.set_cons_zero, List.set_cons_succ]
                      refine wpAnyH_take (i := 5) (oi := ⟨some 107, _, _, _, _, _⟩) (v := ?_) rfl (by kernel_rfl) (by kernel_rfl) (by kernel_rfl) (fun _ _ _ h => h) (Or.inl ⟨by rfl, ?_⟩) (by assumption) ?_
                      rotate_left 1
                      · (intro w hSw; (try dsimp only at hSw); go_simp; (try with_reducible rfl))
                      simp only [Act.put, List.setIfInBounds_toArray, List.set_cons_zero, List.set_cons_succ]
                      refine wpAnyH_take (i := 6) (oi := ⟨some 108, _, _, _, _, _⟩) (v := ?_) rfl (by kernel_rfl) (by kernel_rfl) (by kernel_rfl) (fun _ _ _ h => h) (Or.inl ⟨by rfl, ?_⟩) (by assumption) ?_
                      rotate_left 1
                      · (intro w hSw; (try dsimp only at hSw); go_simp; (try with_reducible rfl))
                      simp only [Act.put, List.setIfInBounds_toArray, List.set_cons_zero, List.set_cons_succ]
                      refine wpAnyH_take (i := 7) (oi := ⟨some 109, _, _, _, _, _⟩) (v := ?_) rfl (by kernel_rfl) (by kernel_rfl) (by kernel_rfl) (fun _ _ _ h => h) (Or.inl ⟨by rfl, ?_⟩) (by assumption) ?_
                      rotate_left 1
                      · (intro w hSw; (try dsimp only at hSw); go_simp; (try with_reducible rfl))
                      simp only [Act.put, List.setIfInBounds_toArray, List.set_cons_zero, List.set_cons_succ]
                      refine wpAnyH_ready (rs := [4]) (by kernel_rfl) (by simp) ?_
                      refine AllReadyH.cons rfl (fun K' hK => ?_) AllReadyH.nil
                      go_simp
                      refine (HSUM.out _ HBX.out).mono ?_
                      rintro e w7 ⟨rfl, ho7, hbx7⟩
                      have d7 : w7.cell? ⟨b1, o1, none⟩ = some (.int .i64 chk) := ho7.cell (p := ⟨b1, o1, none⟩) hKb1 d0
                      refine hK.out _ _ d7 (fun hHeld7 => ?_)
                      clear hK K'
                      refine wpAnyH_take (i := 8) (oi := ⟨some 110, _, _, _, _, _⟩) (v := ?_) rfl (by kernel_rfl) (by kernel_rfl) (by kernel_rfl) (fun _ _ _ h => h) (Or.inl ⟨by rfl, ?_⟩) (by assumption) ?_
                      rotate_left 1
                      · (intro w hSw; (try dsimp only at hSw); go_simp; (try with_reducible rfl))
                      simp only [Act.put, List.setIfInBounds_toArray, List.set_cons_zero, List.set_cons_succ]
                      refine wpAnyH_take (i := 9) (oi := ⟨some 111, _, _, _, _, _⟩) (v := ?_) rfl (by kernel_rfl) (by kernel_rfl) (by kernel_rfl) (fun _ _ _ h => h) (Or.inl ⟨by rfl, ?_⟩) (by assumption) ?_
                      rotate_left 1
                      · (intro w hSw; (try dsimp only at hSw); go_simp; (try with_reducible rfl))
                      simp only [Act.put, List.setIfInBounds_toArray, List.set_cons_zero, List.set_cons_succ]
                      refine wpAnyH_take (i := 10) (oi := ⟨some 112, _, _, _, _, _⟩) (v := undef) rfl (by kernel_rfl) (by kernel_rfl) (by kernel_rfl) (fun _ _ _ h => h) (Or.inr ⟨by rfl, rfl⟩) (by assumption) ?_
                      simp only [Act.put, List.setIfInBounds_toArray, List.set_cons_zero, List.set_cons_succ]
                      refine wpAnyH_take (i := 11) (oi := ⟨some 113, _, _, _, _, _⟩) (v := undef) rfl (by kernel_rfl) (by kernel_rfl) (by kernel_rfl) (fun _ _ _ h => h) (Or.inr ⟨by rfl, rfl⟩) (by assumption) ?_
                      simp only [Act.put, List.setIfInBounds_toArray, List.set_cons_zero, List.set_cons_succ]
                      refine wpAnyH_take (i := 12) (oi := ⟨some 114, _, _, _, _, _⟩) (v := undef) rfl (by kernel_rfl) (by kernel_rfl) (by kernel_rfl) (fun _ _ _ h => h) (Or.inr ⟨by rfl, rfl⟩) (by assumption) ?_
                      simp only [Act.put, List.setIfInBounds_toArray, List.set_cons_zero, List.set_cons_succ]
                      refine wpAnyH_take (i := 13) (oi := ⟨some 115, _, _, _, _, _⟩) (v := undef) rfl (by kernel_rfl) (by kernel_rfl) (by kernel_rfl) (fun _ _ _ h => h) (Or.inr ⟨by rfl, rfl⟩) (by assumption) ?_
                      simp only [Act.put, List.setIfInBounds_toArray, List.set_cons_zero, List.set_cons_succ]
                      refine wpAnyH_take (i := 14) (oi := ⟨some 116, _, _, _, _, _⟩) (v := undef) rfl (by kernel_rfl) (by kernel_rfl) (by kernel_rfl) (fun _ _ _ h => h) (Or.inr ⟨by rfl, rfl⟩) (by assumption) ?_
                      simp only [Act.put, List.setIfInBounds_toArray, List.set_cons_zero, List.set_cons_succ]
                      refine wpAnyH_take (i := 15) (oi := ⟨some 117, _, _, _, _, _⟩) (v := undef) rfl (by kernel_rfl) (by kernel_rfl) (by kernel_rfl) (fun _ _ _ h => h) (Or.inr ⟨by rfl, rfl⟩) (by assumption) ?_
                      simp only [Act.put, List.setIfInBounds_toArray, List.set_cons_zero, List.set_cons_succ]
                      refine wpAnyH_take (i := 16) (oi := ⟨some 118, _, _, _, _, _⟩) (v := undef) rfl (by kernel_rfl) (by kernel_rfl) (by kernel_rfl) (fun _ _ _ h => h) (Or.inr ⟨by rfl, rfl⟩) (by assumption) ?_
                      simp only [Act.put, List.setIfInBounds_toArray, List.set_cons_zero, List.set_cons_succ]
                      refine wpAnyH_take (i := 17) (oi := ⟨some 119, _, _, _, _, _⟩) (v := undef) rfl (by kernel_rfl) (by kernel_rfl) (by kernel_rfl) (fun _ _ _ h => h) (Or.inr ⟨by rfl, rfl⟩) (by assumption) ?_
                      simp only [Act.put, List.setIfInBounds_toArray, List.set_cons_zero, List.set_cons_succ]
                      refine wpAnyH_take (i := 18) (oi := ⟨some 120, _, _, _, _, _⟩) (v := undef) rfl (by kernel_rfl) (by kernel_rfl) (by kernel_rfl) (fun _ _ _ h => h) (Or.inr ⟨by rfl, rfl⟩) (by assumption) ?_
                      simp only [Act.put, List.setIfInBounds_toArray, List.set_cons_zero, List.set_cons_succ]
                      refine wpAnyH_take (i := 19) (oi := ⟨some 121, _, _, _, _, _⟩) (v := ?_) rfl (by kernel_rfl) (by kernel_rfl) (by kernel_rfl) (fun _ _ _ h => h) (Or.inl ⟨by rfl, ?_⟩) (by assumption) ?_
                      rotate_left 1
                      · (intro w hSw; (try dsimp only at hSw); go_simp; (try with_reducible rfl))
                      simp only [Act.put, List.setIfInBounds_toArray, List.set_cons_zero, List.set_cons_succ]
                      refine wpAnyH_take (i := 20) (oi := ⟨some 101, _, _, _, _, _⟩) (v := ?_) rfl (by kernel_rfl) (by kernel_rfl) (by kernel_rfl) (fun _ _ _ h => h) (Or.inl ⟨by rfl, ?_⟩) (by assumption) ?_
                      rotate_left 1
                      · (intro w hSw; (try dsimp only at hSw); go_simp; (try with_reducible rfl))
                      simp only [Act.put, List.setIfInBounds_toArray, List.set_cons_zero, List.set_cons_succ]
                      refine wpAnyH_done (by kernel_rfl) ?_ _
                      have HI7 := Lib.hid ((HI6.out.step HT.out ((Below.refl w6.heap.size w6).drew)).sum HT.out ho7 hbx7 HBD.out)
                      clear ho7 hbx7
                      go_wp2
                      go_ret2
                      exact unPost_err HI7.out.below (HT.out.weak _ _ _ HI7.out.st) (HRES.out ▸ HERR.out) (by simp)
          · have HERR : Hid (RES = .error (m + 1, 103)) := Lib.hid (by rw [← HF.out.2, hab]; exact readL_word _ _ _ _ _ _ _ (by have := HF.out.1; omega) h10a h32)
            refine (last_no L w2 (by omega) (by rw [hLl]; exact h32)).mono ?_
            rintro e w2 ⟨rfl, rfl⟩
            clear h32 hab h10a hLl hRl
            go_wp2
            go_ret2
            exact unPost_err HI2.out.below (HT.out.weak _ _ _ HI2.out.st) (HRES.out ▸ HERR.out) (by simp)
        · have HERR : Hid (RES = .error (m + 1, 103)) := Lib.hid (by rw [← HF.out.2]; exact readL_none _ _ _ _ _ _ (by have := HF.out.1; omega) h10)
          refine (cut_no rest wr HI1.out.env (by omega) h10).mono ?_
          rintro e w2 ⟨rfl, hb2⟩
          have HI2 := Lib.hid (HI1.out.step HT.out hb2)
          clear hb2 h10
          go_wp2_with fail
          refine (Tryz.strings_LastIndexByte rest 32 (by omega) w2).mono ?_
          rintro e w3 ⟨rfl, rfl⟩
          go_wp2
          go_ret2
          exact unPost_err HI2.out.below (HT.out.weak _ _ _ HI2.out.st) (HRES.out ▸ HERR.out) (by simp)
end Go.Proofs.YtjamdppihpeijaaGreatDoor
