/- The document's code and its Fault, of any Node. -/
import Derived.Test.YtfjgjhicinaolaaDoorS
namespace Go.Proofs.YtfjgjhicinaolaaDoor
open Go.RowKit Go.Extern.Stop Go.Stop Go.Extern
set_option maxRecDepth 100000
set_option linter.unusedVariables false
set_option linter.unusedSimpArgs false
set_option linter.unnecessarySimpa false

def leastI (a b : Int) : Int := if a < 0 ∨ (0 ≤ b ∧ b < a) then b else a
theorem least_any (a b : Int) (w : World) : Calls Tryd.prog 47 #[.int .i64 a, .int .i64 b] w fun e w' => e = .returned (.int .i64 (leastI a b)) ∧ w = w' := by
  unfold leastI
  by_cases h1 : a < 0
  · rw [if_pos (.inl h1)]
    go_enter Tryd.func47, Tryd.ntmps47
    go_wp2
    go_ret
    exact ⟨rfl, rfl⟩
  · by_cases h2 : 0 ≤ b
    · by_cases h3 : b < a
      · rw [if_pos (.inr ⟨h2, h3⟩)]
        go_enter Tryd.func47, Tryd.ntmps47
        go_wp2
        go_ret
        exact ⟨rfl, rfl⟩
      · rw [if_neg (by omega)]
        go_enter Tryd.func47, Tryd.ntmps47
        go_wp2
        go_ret
        exact ⟨rfl, rfl⟩
    · rw [if_neg (by omega)]
      go_enter Tryd.func47, Tryd.ntmps47
      go_wp2
      go_ret
      exact ⟨rfl, rfl⟩

mutual
/-- The document's code. -/
def ND.code : ND → Int
  | .mk k c n s A cap l =>
    if (decide (k < 1) || decide (7 < k) || (k == 1 && (decide (c < 1) || decide (11 < c)))) = true then -1
    else if k = 1 then c
    else if k = 7 then (if 1 ≤ c ∧ c ≤ 11 then c else -1)
    else if k = 3 ∨ k = 4 then ND.codeH l
    else if k = 5 then ND.codeL (-1) l
    else -1
/-- Of the first one. -/
def ND.codeH : List ND → Int
  | [] => -1
  | N :: _ => N.code
def ND.codeL (m : Int) : List ND → Int
  | [] => m
  | N :: l => ND.codeL (leastI m N.code) l
end
theorem codeL_snoc (m : Int) (l : List ND) (N : ND) : ND.codeL m (l ++ [N]) = leastI (ND.codeL m l) N.code := by
  induction l generalizing m with
  | nil => simp [ND.codeL]
  | cons x l ih => simp only [List.cons_append, ND.codeL]; exact ih _

/-- What a boxed Node's cells hold. -/
def Boxed (w : World) (N : ND) : Prop := w.cell? ⟨w.heap.size, 0, none⟩ = none
theorem box_cells (N : ND) (w w1 : World) (hb : Below (w.alloc (.cells #[.int .i64 N.k, .int .i64 N.c, .int .i64 N.n, .string N.s, N.kids] 24)).heap.size (w.alloc (.cells #[.int .i64 N.k, .int .i64 N.c, .int .i64 N.n, .string N.s, N.kids] 24)) w1) :
    w1.cell? ⟨w.heap.size, 0, none⟩ = some (.int .i64 N.k) ∧ w1.cell? ⟨w.heap.size, 1, none⟩ = some (.int .i64 N.c) ∧ w1.cell? ⟨w.heap.size, 2, none⟩ = some (.int .i64 N.n) ∧ w1.cell? ⟨w.heap.size, 3, none⟩ = some (.string N.s) ∧ w1.cell? ⟨w.heap.size, 4, none⟩ = some N.kids :=
  ⟨keep1 hb (by simp), keep1 hb (by simp), keep1 hb (by simp), keep1 hb (by simp), keep1 hb (by simp)⟩

set_option maxHeartbeats 1000000 in
theorem code_ref (n : Nat) : ∀ (N : ND) (w : World), N.sz ≤ n → In w N → Calls Tryd.prog 35 #[N.agg] w fun e w' => e = .returned (.int .i64 N.code) ∧ Below w.heap.size w w' := by
  induction n with
  | zero => intro N w hN; have := N.sz_pos; omega
  | succ n ih =>
    intro N w hN hI
    have HIH := Lib.hid ih
    clear ih
    have his := fun w => isN_any N w
    have HIS := Lib.hid his
    obtain ⟨q1, q2, q3, q4⟩ := hI.parts
    rw [ND.sz_l] at hN
    have HSZ : Hid (∀ x, x ∈ N.l → x.sz ≤ n) := Lib.hid fun x hx => by have := ND.szL_mem hx; omega
    have HIN : Hid (∀ x, x ∈ N.l → In w x) := Lib.hid fun x hx => q4.mem hx
    have hcode : N.code = (if N.isN = true then -1 else if N.k = 1 then N.c else if N.k = 7 then (if 1 ≤ N.c ∧ N.c ≤ 11 then N.c else -1) else if N.k = 3 ∨ N.k = 4 then ND.codeH N.l else if N.k = 5 then ND.codeL (-1) N.l else -1) := by cases N; rfl
    rw [hcode]
    have HBX := Lib.hid (box_cells N w)
    have hb0 : Below w.heap.size w (w.alloc (.cells #[.int .i64 N.k, .int .i64 N.c, .int .i64 N.n, .string N.s, N.kids] 24)) := (Below.refl _ _).alloc (Nat.le_refl _) _
    have HROW := Lib.hid q3
    unfold ND.agg
    unfold ND.kids at HBX hb0 ⊢
    generalize hl : N.l = l at *
    have hq : l.length ≤ 9223372036854775807 := by omega
    obtain ⟨m, hm⟩ : ∃ m, l.length = m := ⟨_, rfl⟩
    rw [hm] at hq HBX hb0 ⊢
    have HM := Lib.hid hm
    have HIS2 : Hid (∀ W : World, Calls Tryd.prog 29 #[.agg #[.int .i64 N.k, .int .i64 N.c, .int .i64 N.n, .string N.s, .slice N.A m N.cap]] W fun e w' => e = .returned (.bool N.isN) ∧ Below W.heap.size W w') := Lib.hid fun W => by
      have := HIS.out W
      unfold ND.agg ND.kids at this
      rwa [hl, hm] at this
    clear hI q1 q2 q3 q4 hN his HIS hcode hl hm
    generalize N.isN = isn at *
    generalize N.k = k at *
    generalize N.c = c at *
    generalize N.n = nn at *
    generalize N.s = s at *
    generalize N.A = A at *
    generalize N.cap = cap at *
    clear N
    cases isn with
    | true =>
      go_enter Tryd.func35, Tryd.ntmps35
      go_upto_region 1 with fail
      show Code.wp _ _ _ _ (w.alloc (.cells #[.int .i64 k, .int .i64 c, .int .i64 nn, .string s, .slice A m cap] 24))
      generalize (w.alloc (.cells #[.int .i64 k, .int .i64 c, .int .i64 nn, .string s, .slice A m cap] 24)) = w0 at HBX hb0 ⊢
      obtain ⟨c0, c1, c2, c3, c4⟩ := HBX.out w0 (Below.refl _ _)
      have h1 := HIS2.out w0
      go_wp2_with (go_at_call 29; refine h1.mono ?_; rintro e w1 ⟨rfl, hb1⟩)
      go_ret
      exact ⟨rfl, trans_b hb0 hb1⟩
    | false =>
      rw [if_neg (by decide)]
      by_cases k1 : k = 1
      · subst k1
        rw [if_pos rfl]
        go_enter Tryd.func35, Tryd.ntmps35
        go_upto_region 1 with fail
        show Code.wp _ _ _ _ (w.alloc (.cells #[.int .i64 1, .int .i64 c, .int .i64 nn, .string s, .slice A m cap] 24))
        generalize (w.alloc (.cells #[.int .i64 1, .int .i64 c, .int .i64 nn, .string s, .slice A m cap] 24)) = w0 at HBX hb0 ⊢
        obtain ⟨c0, c1, c2, c3, c4⟩ := HBX.out w0 (Below.refl _ _)
        have h1 := HIS2.out w0
        have HB2 : Hid (∀ W, Below w0.heap.size w0 W → Below w.heap.size w W) := Lib.hid fun W h => trans_b hb0 h
        clear hb0 HIS2
        go_upto_region 3 with (go_at_call 29; refine h1.mono ?_; rintro e w1 ⟨rfl, hb1⟩)
        clear c0 c1 c2 c3 c4 h1
        obtain ⟨c0, c1, c2, c3, c4⟩ := HBX.out w1 hb1
        have HB3 := Lib.hid hb1
        clear hb1
        go_wp2
        go_ret
        exact ⟨rfl, HB2.out _ HB3.out⟩
      have t1 : (k == 1) = false := by simpa using k1
      rw [if_neg k1]
      by_cases k7 : k = 7
      · subst k7
        rw [if_pos rfl]
        by_cases e1 : 1 ≤ c
        · by_cases e2 : c ≤ 11
          · rw [if_pos ⟨e1, e2⟩]
            go_enter Tryd.func35, Tryd.ntmps35
            go_upto_region 1 with fail
            show Code.wp _ _ _ _ (w.alloc (.cells #[.int .i64 7, .int .i64 c, .int .i64 nn, .string s, .slice A m cap] 24))
            generalize (w.alloc (.cells #[.int .i64 7, .int .i64 c, .int .i64 nn, .string s, .slice A m cap] 24)) = w0 at HBX hb0 ⊢
            obtain ⟨c0, c1, c2, c3, c4⟩ := HBX.out w0 (Below.refl _ _)
            have h1 := HIS2.out w0
            have HB2 : Hid (∀ W, Below w0.heap.size w0 W → Below w.heap.size w W) := Lib.hid fun W h => trans_b hb0 h
            clear hb0 HIS2
            go_upto_region 3 with (go_at_call 29; refine h1.mono ?_; rintro e w1 ⟨rfl, hb1⟩)
            clear c0 c1 c2 c3 c4 h1
            obtain ⟨c0, c1, c2, c3, c4⟩ := HBX.out w1 hb1
            have HB3 := Lib.hid hb1
            clear hb1
            go_wp2
            go_ret
            exact ⟨rfl, HB2.out _ HB3.out⟩
          · rw [if_neg (by omega)]
            go_enter Tryd.func35, Tryd.ntmps35
            go_upto_region 1 with fail
            show Code.wp _ _ _ _ (w.alloc (.cells #[.int .i64 7, .int .i64 c, .int .i64 nn, .string s, .slice A m cap] 24))
            generalize (w.alloc (.cells #[.int .i64 7, .int .i64 c, .int .i64 nn, .string s, .slice A m cap] 24)) = w0 at HBX hb0 ⊢
            obtain ⟨c0, c1, c2, c3, c4⟩ := HBX.out w0 (Below.refl _ _)
            have h1 := HIS2.out w0
            have HB2 : Hid (∀ W, Below w0.heap.size w0 W → Below w.heap.size w W) := Lib.hid fun W h => trans_b hb0 h
            clear hb0 HIS2
            go_upto_region 3 with (go_at_call 29; refine h1.mono ?_; rintro e w1 ⟨rfl, hb1⟩)
            clear c0 c1 c2 c3 c4 h1
            obtain ⟨c0, c1, c2, c3, c4⟩ := HBX.out w1 hb1
            have HB3 := Lib.hid hb1
            clear hb1
            go_wp2
            go_ret
            exact ⟨rfl, HB2.out _ HB3.out⟩
        · rw [if_neg (by omega)]
          go_enter Tryd.func35, Tryd.ntmps35
          go_upto_region 1 with fail
          show Code.wp _ _ _ _ (w.alloc (.cells #[.int .i64 7, .int .i64 c, .int .i64 nn, .string s, .slice A m cap] 24))
          generalize (w.alloc (.cells #[.int .i64 7, .int .i64 c, .int .i64 nn, .string s, .slice A m cap] 24)) = w0 at HBX hb0 ⊢
          obtain ⟨c0, c1, c2, c3, c4⟩ := HBX.out w0 (Below.refl _ _)
          have h1 := HIS2.out w0
          have HB2 : Hid (∀ W, Below w0.heap.size w0 W → Below w.heap.size w W) := Lib.hid fun W h => trans_b hb0 h
          clear hb0 HIS2
          go_upto_region 3 with (go_at_call 29; refine h1.mono ?_; rintro e w1 ⟨rfl, hb1⟩)
          clear c0 c1 c2 c3 c4 h1
          obtain ⟨c0, c1, c2, c3, c4⟩ := HBX.out w1 hb1
          have HB3 := Lib.hid hb1
          clear hb1
          go_wp2
          go_ret
          exact ⟨rfl, HB2.out _ HB3.out⟩
      have t7 : (k == 7) = false := by simpa using k7
      rw [if_neg k7]
      by_cases k34 : k = 3 ∨ k = 4
      · rw [if_pos k34]
        clear k1 k7
        cases l with
        | nil =>
          have e : m = 0 := HM.out.symm
          subst e
          simp only [ND.codeH]
          rcases k34 with rfl | rfl
          ·
            go_enter Tryd.func35, Tryd.ntmps35
            go_upto_region 1 with fail
            show Code.wp _ _ _ _ (w.alloc (.cells #[.int .i64 3, .int .i64 c, .int .i64 nn, .string s, .slice A 0 cap] 24))
            generalize (w.alloc (.cells #[.int .i64 3, .int .i64 c, .int .i64 nn, .string s, .slice A 0 cap] 24)) = w0 at HBX hb0 ⊢
            obtain ⟨c0, c1, c2, c3, c4⟩ := HBX.out w0 (Below.refl _ _)
            have h1 := HIS2.out w0
            have HB2 : Hid (∀ W, Below w0.heap.size w0 W → Below w.heap.size w W) := Lib.hid fun W h => trans_b hb0 h
            clear hb0 HIS2
            go_upto_region 3 with (go_at_call 29; refine h1.mono ?_; rintro e w1 ⟨rfl, hb1⟩)
            clear c0 c1 c2 c3 c4 h1
            obtain ⟨c0, c1, c2, c3, c4⟩ := HBX.out w1 hb1
            have HB3 := Lib.hid hb1
            clear hb1
            go_wp2
            go_ret
            exact ⟨rfl, HB2.out _ HB3.out⟩
          ·
            go_enter Tryd.func35, Tryd.ntmps35
            go_upto_region 1 with fail
            show Code.wp _ _ _ _ (w.alloc (.cells #[.int .i64 4, .int .i64 c, .int .i64 nn, .string s, .slice A 0 cap] 24))
            generalize (w.alloc (.cells #[.int .i64 4, .int .i64 c, .int .i64 nn, .string s, .slice A 0 cap] 24)) = w0 at HBX hb0 ⊢
            obtain ⟨c0, c1, c2, c3, c4⟩ := HBX.out w0 (Below.refl _ _)
            have h1 := HIS2.out w0
            have HB2 : Hid (∀ W, Below w0.heap.size w0 W → Below w.heap.size w W) := Lib.hid fun W h => trans_b hb0 h
            clear hb0 HIS2
            go_upto_region 3 with (go_at_call 29; refine h1.mono ?_; rintro e w1 ⟨rfl, hb1⟩)
            clear c0 c1 c2 c3 c4 h1
            obtain ⟨c0, c1, c2, c3, c4⟩ := HBX.out w1 hb1
            have HB3 := Lib.hid hb1
            clear hb1
            go_wp2
            go_ret
            exact ⟨rfl, HB2.out _ HB3.out⟩
        | cons x l =>
          obtain ⟨m1, rfl⟩ : ∃ m1, m = m1 + 1 := ⟨m - 1, by have := HM.out; simp at this; omega⟩
          obtain ⟨b, off, rfl, hc⟩ : ∃ b off, A = some ⟨b, off, none⟩ ∧ ∀ j u, x.cells[j]? = some u → w.cell? ⟨b, off + j, none⟩ = some u := by
            rcases HROW.out with h | ⟨b, off, e, h⟩
            · cases h
            · exact ⟨b, off, e, fun j u hu => by have := h 0 (by simp) j u hu; simpa using this⟩
          have HK : Hid (∀ W, Below w.heap.size w W → W.cell? ⟨b, off, none⟩ = some (.int .i64 x.k) ∧ W.cell? ⟨b, off + 1, none⟩ = some (.int .i64 x.c) ∧ W.cell? ⟨b, off + 2, none⟩ = some (.int .i64 x.n) ∧ W.cell? ⟨b, off + 3, none⟩ = some (.string x.s) ∧ W.cell? ⟨b, off + 4, none⟩ = some x.kids) := Lib.hid fun W hb =>
            ⟨keep1 hb (hc 0 _ rfl), keep1 hb (hc 1 _ rfl), keep1 hb (hc 2 _ rfl), keep1 hb (hc 3 _ rfl), keep1 hb (hc 4 _ rfl)⟩
          have HC : Hid (∀ W, Below w.heap.size w W → Calls Tryd.prog 35 #[.agg #[.int .i64 x.k, .int .i64 x.c, .int .i64 x.n, .string x.s, x.kids]] W fun e w' => e = .returned (.int .i64 x.code) ∧ Below W.heap.size W w') := Lib.hid fun W hb => HIH.out x W (HSZ.out x (by simp)) ((HIN.out x (by simp)).below hb)
          simp only [ND.codeH]
          clear hc HIH HSZ HIN HROW HM
          generalize x.code = xc at HC ⊢
          generalize x.k = xk at HK HC
          generalize x.c = xcc at HK HC
          generalize x.n = xn at HK HC
          generalize x.s = xs at HK HC
          generalize x.kids = xv at HK HC
          have hmi : (0 : Int) < (m1 : Int) + 1 := by omega
          rcases k34 with rfl | rfl
          ·
            go_enter Tryd.func35, Tryd.ntmps35
            go_upto_region 1 with fail
            show Code.wp _ _ _ _ (w.alloc (.cells #[.int .i64 3, .int .i64 c, .int .i64 nn, .string s, .slice (some ⟨b, off, none⟩) (m1 + 1) cap] 24))
            generalize (w.alloc (.cells #[.int .i64 3, .int .i64 c, .int .i64 nn, .string s, .slice (some ⟨b, off, none⟩) (m1 + 1) cap] 24)) = w0 at HBX hb0 ⊢
            obtain ⟨c0, c1, c2, c3, c4⟩ := HBX.out w0 (Below.refl _ _)
            have h1 := HIS2.out w0
            have HB2 : Hid (∀ W, Below w0.heap.size w0 W → Below w.heap.size w W) := Lib.hid fun W h => trans_b hb0 h
            clear hb0 HIS2
            go_upto_region 3 with (go_at_call 29; refine h1.mono ?_; rintro e w1 ⟨rfl, hb1⟩)
            clear c0 c1 c2 c3 c4 h1
            obtain ⟨c0, c1, c2, c3, c4⟩ := HBX.out w1 hb1
            have HB3 := Lib.hid hb1
            clear hb1
            have HW1 := HB2.out _ HB3.out
            obtain ⟨d0, d1, d2, d3, d4⟩ := HK.out _ HW1
            have hcall := HC.out _ HW1
            have HB4 := Lib.hid HW1
            clear HW1
            go_wp2_with (go_at_call 35; refine hcall.mono ?_; rintro e w2 ⟨rfl, hb2⟩)
            go_ret
            exact ⟨rfl, trans_b HB4.out hb2⟩
          ·
            go_enter Tryd.func35, Tryd.ntmps35
            go_upto_region 1 with fail
            show Code.wp _ _ _ _ (w.alloc (.cells #[.int .i64 4, .int .i64 c, .int .i64 nn, .string s, .slice (some ⟨b, off, none⟩) (m1 + 1) cap] 24))
            generalize (w.alloc (.cells #[.int .i64 4, .int .i64 c, .int .i64 nn, .string s, .slice (some ⟨b, off, none⟩) (m1 + 1) cap] 24)) = w0 at HBX hb0 ⊢
            obtain ⟨c0, c1, c2, c3, c4⟩ := HBX.out w0 (Below.refl _ _)
            have h1 := HIS2.out w0
            have HB2 : Hid (∀ W, Below w0.heap.size w0 W → Below w.heap.size w W) := Lib.hid fun W h => trans_b hb0 h
            clear hb0 HIS2
            go_upto_region 3 with (go_at_call 29; refine h1.mono ?_; rintro e w1 ⟨rfl, hb1⟩)
            clear c0 c1 c2 c3 c4 h1
            obtain ⟨c0, c1, c2, c3, c4⟩ := HBX.out w1 hb1
            have HB3 := Lib.hid hb1
            clear hb1
            have HW1 := HB2.out _ HB3.out
            obtain ⟨d0, d1, d2, d3, d4⟩ := HK.out _ HW1
            have hcall := HC.out _ HW1
            have HB4 := Lib.hid HW1
            clear HW1
            go_wp2_with (go_at_call 35; refine hcall.mono ?_; rintro e w2 ⟨rfl, hb2⟩)
            go_ret
            exact ⟨rfl, trans_b HB4.out hb2⟩
      have t3 : (k == 3) = false := by simp; omega
      have t4 : (k == 4) = false := by simp; omega
      rw [if_neg k34]
      clear k1 k7 k34
      by_cases k5 : k = 5
      · subst k5
        rw [if_pos rfl]
        generalize hr : ND.codeL (-1) l = r
        have HR := Lib.hid hr
        clear hr
        go_enter Tryd.func35, Tryd.ntmps35
        go_upto_region 1 with fail
        show Code.wp _ _ _ _ (w.alloc (.cells #[.int .i64 5, .int .i64 c, .int .i64 nn, .string s, .slice A m cap] 24))
        generalize (w.alloc (.cells #[.int .i64 5, .int .i64 c, .int .i64 nn, .string s, .slice A m cap] 24)) = w0 at HBX hb0 ⊢
        obtain ⟨c0, c1, c2, c3, c4⟩ := HBX.out w0 (Below.refl _ _)
        have h1 := HIS2.out w0
        have HB2 : Hid (∀ W, Below w0.heap.size w0 W → Below w.heap.size w W) := Lib.hid fun W h => trans_b hb0 h
        clear hb0 HIS2
        go_upto_region 3 with (go_at_call 29; refine h1.mono ?_; rintro e w1 ⟨rfl, hb1⟩)
        clear c0 c1 c2 c3 c4 h1
        obtain ⟨c0, c1, c2, c3, c4⟩ := HBX.out w1 hb1
        have HB3 := Lib.hid hb1
        clear hb1
        have HW1 := Lib.hid (HB2.out _ HB3.out)
        go_wp2
        go_loopw [3, 4] (fun x i W => ∃ (j : Nat) (z : Int), i = .int .i64 j ∧ j ≤ m ∧ x = .int .i64 z ∧ Hid (z = ND.codeL (-1) (l.take j)) ∧ Hid (Below w0.heap.size w0 W)) (fun _ i _ => m - (intOf i).toNat)
        case atStart => exact ⟨0, -1, rfl, by omega, rfl, Lib.hid rfl, HB3⟩
        case round =>
          clear c0 c1 c2 c3 c4
          obtain ⟨j, z, rfl, hj, rfl, HZ, HW⟩ := hrel
          obtain ⟨c0, c1, c2, c3, c4⟩ := HBX.out _ HW.out
          clear c0 c1 c2 c3
          by_cases hlt : j < m
          · have hjl : j < l.length := by rw [HM.out]; exact hlt
            obtain ⟨b, off, e, hc⟩ : ∃ b off, A = some ⟨b, off, none⟩ ∧ ∀ i u, (l[j]).cells[i]? = some u → w.cell? ⟨b, off + j * 5 + i, none⟩ = some u := by
              rcases HROW.out with h | ⟨b, off, e, h⟩
              · rw [h] at hjl; simp at hjl
              · exact ⟨b, off, e, fun i u hu => h j hjl i u hu⟩
            have hmem : l[j] ∈ l := List.getElem_mem hjl
            have hsn : ND.codeL (-1) (l.take (j + 1)) = leastI z (l[j]).code := by rw [List.take_succ_eq_append_getElem hjl, codeL_snoc, HZ.out]
            generalize l[j] = x at hc hmem hsn
            have HZ2 := Lib.hid hsn.symm
            have hb := HB2.out _ HW.out
            have d0 := keep1 hb (hc 0 _ rfl)
            have d1 := keep1 hb (hc 1 _ rfl)
            have d2 := keep1 hb (hc 2 _ rfl)
            have d3 := keep1 hb (hc 3 _ rfl)
            have d4 := keep1 hb (hc 4 _ rfl)
            have hcall : Calls Tryd.prog 35 #[.agg #[.int .i64 x.k, .int .i64 x.c, .int .i64 x.n, .string x.s, x.kids]] wr fun e w' => e = .returned (.int .i64 x.code) ∧ Below wr.heap.size wr w' := HIH.out x wr (HSZ.out x hmem) ((HIN.out x hmem).below hb)
            subst e
            clear hc hjl hmem hsn HZ hb
            generalize x.code = xc at hcall HZ2
            generalize x.k = xk at d0 hcall
            generalize x.c = xcc at d1 hcall
            generalize x.n = xn at d2 hcall
            generalize x.s = xs at d3 hcall
            generalize x.kids = xv at d4 hcall
            simp only [Nat.add_zero] at d0
            have hmi : (j : Int) < m := by omega
            have hle := least_any z xc
            go_wp2_with (first | (go_at_call 35; refine hcall.mono ?_; rintro e w2 ⟨rfl, hb2⟩; have HB4 := Lib.hid (trans_b HW.out hb2); clear hb2 hcall d0 d1 d2 d3 d4 c4) | (go_at_call 47; refine (hle _).mono ?_; rintro e w3 ⟨rfl, rfl⟩))
            go_roundw
            case rel => exact ⟨j + 1, leastI z xc, by go_num, by omega, rfl, HZ2, HB4⟩
            case measure => simp [intOf]; omega
          · obtain rfl : m = j := by omega
            have e : r = z := by rw [← HR.out, HZ.out, List.take_of_length_le (by rw [HM.out]; exact Nat.le_refl _)]
            subst e
            go_wp2
            go_ret
            exact ⟨rfl, HB2.out _ HW.out⟩
      have t5 : (k == 5) = false := by simpa using k5
      rw [if_neg k5]
      clear k5
      go_enter Tryd.func35, Tryd.ntmps35
      go_upto_region 1 with fail
      show Code.wp _ _ _ _ (w.alloc (.cells #[.int .i64 k, .int .i64 c, .int .i64 nn, .string s, .slice A m cap] 24))
      generalize (w.alloc (.cells #[.int .i64 k, .int .i64 c, .int .i64 nn, .string s, .slice A m cap] 24)) = w0 at HBX hb0 ⊢
      obtain ⟨c0, c1, c2, c3, c4⟩ := HBX.out w0 (Below.refl _ _)
      have h1 := HIS2.out w0
      have HB2 : Hid (∀ W, Below w0.heap.size w0 W → Below w.heap.size w W) := Lib.hid fun W h => trans_b hb0 h
      clear hb0 HIS2
      go_upto_region 3 with (go_at_call 29; refine h1.mono ?_; rintro e w1 ⟨rfl, hb1⟩)
      clear c0 c1 c2 c3 c4 h1
      obtain ⟨c0, c1, c2, c3, c4⟩ := HBX.out w1 hb1
      have HB3 := Lib.hid hb1
      clear hb1
      go_wp2
      go_ret
      exact ⟨rfl, HB2.out _ HB3.out⟩
end Go.Proofs.YtfjgjhicinaolaaDoor
