/- What build makes of a Node: all; Code, Of. -/
import Derived.Test.YtfjgjhicinaolaaDoorW4
import Derived.Test.YtfjgjhicinaolaaDoorI
import Derived.BigQuiet
namespace Go.Proofs.YtfjgjhicinaolaaDoor
open Go.RowKit Go.Extern.Stop Go.Stop Go.Extern
set_option maxRecDepth 100000
set_option linter.unusedVariables false
set_option linter.unusedSimpArgs false
set_option linter.unnecessarySimpa false

theorem len_szL : ∀ (l : List ND), l.length ≤ ND.szL l
  | [] => by simp
  | x :: l => by have := len_szL l; have := x.sz_pos; simp [ND.szL]; omega
theorem build_any (a : Nat → Addr) (n : Nat) : ∀ (N : ND) (w : World), N.sz ≤ n → N.sz ≤ 1099511627776 → In w N → Errs a w → Calls Tryd.prog 10 #[N.agg] w (BuildPost a N w) := by
  induction n with
  | zero => intro N w h; have := N.sz_pos; omega
  | succ n ih =>
    intro N w h hb hI hE
    have hsz := N.sz_l
    have hB : Builds a w N.l := fun x hx W hW => by
      have := ND.szL_mem hx
      exact ih x W (by omega) (by omega) ((hI.kid hx).below hW) (hE.below hW)
    cases h0 : N.isN with
    | true => exact build_nil a N w hE h0
    | false =>
      obtain ⟨k1, k7, _⟩ := isN_k N h0
      by_cases h3 : N.k = 3
      · exact build_fault a N w hI hB h0 h3
      by_cases h4 : N.k = 4
      · exact build_one a N w hI hB h0 h4
      by_cases h5 : N.k = 5
      · have := len_szL N.l
        exact build_many a N w hI hB h0 h5 (by omega)
      exact build_plain a N w hE h0 (by omega)

theorem codeF_congr {S S' : Nat → Bool} : ∀ (n k : Nat), (∀ j, k ≤ j → j < k + n → S j = S' j) → codeF S n k = codeF S' n k
  | 0, _, _ => rfl
  | n + 1, k, h => by simp only [codeF]; rw [h k (by omega) (by omega), codeF_congr n (k + 1) fun j h1 h2 => h j (by omega) (by omega)]
def ND.codeR (N : ND) : Int := if N.isN then 0 else N.code
theorem Like.code {N : ND} {T : ET} (h : Like N T) : T.code = N.codeR := by
  unfold ND.codeR
  by_cases h0 : N.isN = true
  · rw [if_pos h0, h.nil.2 h0]; rfl
  · rw [if_neg h0, ET.code_of T (fun e => h0 (h.nil.1 e)), code_has]
    exact codeF_congr _ _ fun j h1 h2 => h.has j h1 (by omega)
def atK : Option (Option (Int × ByteArray)) → Int
  | some (some (n, _)) => n
  | _ => 0
def pathK : Option (Option (Int × ByteArray)) → ByteArray
  | some (some (_, s)) => s
  | _ => ⟨#[]⟩
def okK : Option (Option (Int × ByteArray)) → Bool
  | some (some _) => true
  | _ => false
theorem atO_K (d : Option ET) : atO d = atK (asK d) := by cases d with | none => rfl | some F => cases F <;> rfl
theorem pathO_K (d : Option ET) : pathO d = pathK (asK d) := by cases d with | none => rfl | some F => cases F <;> rfl
theorem okO_K (d : Option ET) : okO d = okK (asK d) := by cases d with | none => rfl | some F => cases F <;> rfl

theorem code_walk (N : ND) (w : World) (hI : In w N) : Calls Tryd.prog 13 #[N.agg] w fun e w' => e = .returned (.int .i64 N.codeR) ∧ Below w.heap.size w w' := by
  have hb0 : Below w.heap.size w (w.alloc (.cells #[.int .i64 N.k, .int .i64 N.c, .int .i64 N.n, .string N.s, N.kids] 24)) := (Below.refl _ _).alloc (Nat.le_refl _) _
  have H1 : Hid (∀ W, Below w.heap.size w W → Calls Tryd.prog 29 #[.agg #[.int .i64 N.k, .int .i64 N.c, .int .i64 N.n, .string N.s, N.kids]] W fun e w' => e = .returned (.bool N.isN) ∧ Below W.heap.size W w') := Lib.hid fun W _ => isN_any N W
  have H2 : Hid (∀ W, Below w.heap.size w W → Calls Tryd.prog 35 #[.agg #[.int .i64 N.k, .int .i64 N.c, .int .i64 N.n, .string N.s, N.kids]] W fun e w' => e = .returned (.int .i64 N.code) ∧ Below W.heap.size W w') := Lib.hid fun W hb => code_ref _ N W (Nat.le_refl _) (hI.below hb)
  have HBX := Lib.hid (box_cells N w)
  unfold ND.agg ND.codeR
  clear hI
  unfold ND.kids at *
  generalize N.isN = isn at *
  generalize N.code = cd at *
  generalize N.l.length = m at *
  generalize N.k = k at *
  generalize N.c = c at *
  generalize N.n = nn at *
  generalize N.s = s at *
  generalize N.A = A at *
  generalize N.cap = cap at *
  clear N
  cases isn with
  | true =>
    rw [if_pos rfl]
    go_enter Tryd.func13, Tryd.ntmps13
    go_upto_region 1 with fail
    show Code.wp _ _ _ _ (w.alloc (.cells #[.int .i64 k, .int .i64 c, .int .i64 nn, .string s, .slice A m cap] 24))
    generalize (w.alloc (.cells #[.int .i64 k, .int .i64 c, .int .i64 nn, .string s, .slice A m cap] 24)) = w0 at HBX hb0 ⊢
    obtain ⟨c0, c1, c2, c3, c4⟩ := HBX.out w0 (Below.refl _ _)
    go_wp2_with (go_at_call 29; refine (H1.out _ hb0).mono ?_; rintro e w1 ⟨rfl, hb1⟩)
    go_ret
    exact ⟨rfl, trans_b hb0 hb1⟩
  | false =>
    rw [if_neg (by decide)]
    go_enter Tryd.func13, Tryd.ntmps13
    go_upto_region 1 with fail
    show Code.wp _ _ _ _ (w.alloc (.cells #[.int .i64 k, .int .i64 c, .int .i64 nn, .string s, .slice A m cap] 24))
    generalize (w.alloc (.cells #[.int .i64 k, .int .i64 c, .int .i64 nn, .string s, .slice A m cap] 24)) = w0 at HBX hb0 ⊢
    obtain ⟨c0, c1, c2, c3, c4⟩ := HBX.out w0 (Below.refl _ _)
    go_wp2_with (first | (go_at_call 29; refine (H1.out _ hb0).mono ?_; rintro e w1 ⟨rfl, hb1⟩; obtain ⟨d0, d1, d2, d3, d4⟩ := HBX.out w1 hb1; have hb2 := trans_b hb0 hb1) | (go_at_call 35; refine (H2.out _ hb2).mono ?_; rintro e w2 ⟨rfl, hb3⟩))
    go_ret
    exact ⟨rfl, trans_b hb2 hb3⟩

theorem fnd_k_n : ∀ (n : Nat) (N F : ND), N.sz ≤ n → N.fnd = some F → F.k = 3 ∨ F.k = 6 := by
  intro n
  induction n with
  | zero => intro N F h; have := N.sz_pos; omega
  | succ n ih =>
    intro N F h hF
    have hsz := N.sz_l
    have hL : ∀ l : List ND, (∀ x, x ∈ l → x.sz ≤ n) → ND.fndL l = some F → F.k = 3 ∨ F.k = 6 := by
      intro l
      induction l with
      | nil => intro _ e; cases e
      | cons x l ihl =>
        intro hx e
        simp only [ND.fndL] at e
        cases hxf : x.fnd with
        | some y => rw [hxf] at e; cases e; exact ih x _ (hx x (by simp)) hxf
        | none => rw [hxf] at e; exact ihl (fun z hz => hx z (by simp [hz])) e
    rw [ND.fnd_eq] at hF
    split at hF
    · cases hF
    · split at hF
      · cases hF; assumption
      · split at hF
        · cases hl : N.l with
          | nil => rw [hl] at hF; cases hF
          | cons x l =>
            rw [hl] at hF
            refine ih x F ?_ hF
            have := ND.szL_mem (N := x) (l := N.l) (by rw [hl]; simp)
            omega
        · split at hF
          · exact hL _ (fun x hx => by have := ND.szL_mem hx; omega) hF
          · cases hF
theorem fnd_k {N F : ND} (h : N.fnd = some F) : F.k = 3 ∨ F.k = 6 := fnd_k_n _ N F (Nat.le_refl _) h

theorem of_walk (N : ND) (w : World) (hI : In w N) : Calls Tryd.prog 11 #[N.agg] w fun e w' => e = .returned (.tuple #[.int .i64 (atK (fndK N.fnd)), .string (pathK (fndK N.fnd)), .bool (okK (fndK N.fnd))]) ∧ Below w.heap.size w w' := by
  have hb0 : Below w.heap.size w (w.alloc (.cells #[.int .i64 N.k, .int .i64 N.c, .int .i64 N.n, .string N.s, N.kids] 24)) := (Below.refl _ _).alloc (Nat.le_refl _) _
  have hfk := @fnd_k N
  have H2 : Hid (∀ W, Below w.heap.size w W → Calls Tryd.prog 34 #[.agg #[.int .i64 N.k, .int .i64 N.c, .int .i64 N.n, .string N.s, N.kids]] W (FndPost W N.fnd)) := Lib.hid fun W hb => fnd_ref _ N W (Nat.le_refl _) (hI.below hb)
  have HBX := Lib.hid (box_cells N w)
  unfold ND.agg
  clear hI
  unfold ND.kids at *
  generalize N.fnd = x at *
  generalize N.l.length = m at *
  generalize N.k = k at *
  generalize N.c = c at *
  generalize N.n = nn at *
  generalize N.s = s at *
  generalize N.A = A at *
  generalize N.cap = cap at *
  clear N
  cases x with
  | none =>
    simp only [fndK, atK, pathK, okK]
    have H3 : Hid (∀ W, Below w.heap.size w W → Calls Tryd.prog 34 #[.agg #[.int .i64 k, .int .i64 c, .int .i64 nn, .string s, .slice A m cap]] W fun e w' => e = .returned (.tuple #[.agg #[.int .i64 0, .int .i64 0, .int .i64 0, .string ⟨#[]⟩, .slice none 0 0], .bool false]) ∧ Below W.heap.size W w') := H2
    go_enter Tryd.func11, Tryd.ntmps11
    go_upto_region 1 with fail
    show Code.wp _ _ _ _ (w.alloc (.cells #[.int .i64 k, .int .i64 c, .int .i64 nn, .string s, .slice A m cap] 24))
    generalize (w.alloc (.cells #[.int .i64 k, .int .i64 c, .int .i64 nn, .string s, .slice A m cap] 24)) = w0 at HBX hb0 ⊢
    obtain ⟨c0, c1, c2, c3, c4⟩ := HBX.out w0 (Below.refl _ _)
    go_upto_region 2 with (go_at_call 34; refine (H3.out _ hb0).mono ?_; rintro e w1 ⟨rfl, hb1⟩)
    have hb2 := trans_b hb0 hb1
    clear HBX H2 H3 c0 c1 c2 c3 c4 hb0 hb1
    go_wp2
    refine bodyPost_ret (v := .tuple #[.int .i64 0, .string ⟨#[]⟩, .bool false]) ?_ rfl ⟨rfl, ?_⟩
    · simp [results, Tryd.results11, asAddr, Act.put]
    · exact hb2.alloc hb2.size _
  | some F =>
    have hFk := hfk rfl
    clear hfk
    have H3 : Hid (∀ W, Below w.heap.size w W → Calls Tryd.prog 34 #[.agg #[.int .i64 k, .int .i64 c, .int .i64 nn, .string s, .slice A m cap]] W fun e w' => e = .returned (.tuple #[.agg #[.int .i64 F.k, .int .i64 F.c, .int .i64 F.n, .string F.s, F.kids], .bool true]) ∧ Below W.heap.size W w') := H2
    simp only [fndK]
    generalize F.k = fk at *
    generalize F.c = fc at *
    generalize F.n = fn at *
    generalize F.s = fs at *
    unfold ND.kids at H3
    generalize F.A = fA at *
    generalize F.cap = fcap at *
    generalize F.l.length = fm at *
    clear H2 F
    by_cases h6 : fk = 6
    · subst h6
      rw [if_pos rfl]
      simp only [atK, pathK, okK]
      go_enter Tryd.func11, Tryd.ntmps11
      go_upto_region 1 with fail
      show Code.wp _ _ _ _ (w.alloc (.cells #[.int .i64 k, .int .i64 c, .int .i64 nn, .string s, .slice A m cap] 24))
      generalize (w.alloc (.cells #[.int .i64 k, .int .i64 c, .int .i64 nn, .string s, .slice A m cap] 24)) = w0 at HBX hb0 ⊢
      obtain ⟨c0, c1, c2, c3, c4⟩ := HBX.out w0 (Below.refl _ _)
      go_upto_region 2 with (go_at_call 34; refine (H3.out _ hb0).mono ?_; rintro e w1 ⟨rfl, hb1⟩)
      have hb2 := trans_b hb0 hb1
      clear HBX c0 c1 c2 c3 c4 hb0 hb1
      go_wp2
      refine bodyPost_ret (v := .tuple #[.int .i64 0, .string ⟨#[]⟩, .bool false]) ?_ rfl ⟨rfl, ?_⟩
      · simp [results, Tryd.results11, asAddr, Act.put]
      · exact hb2.alloc hb2.size _
    · obtain rfl : fk = 3 := by omega
      rw [if_neg (by decide)]
      simp only [atK, pathK, okK]
      go_enter Tryd.func11, Tryd.ntmps11
      go_upto_region 1 with fail
      show Code.wp _ _ _ _ (w.alloc (.cells #[.int .i64 k, .int .i64 c, .int .i64 nn, .string s, .slice A m cap] 24))
      generalize (w.alloc (.cells #[.int .i64 k, .int .i64 c, .int .i64 nn, .string s, .slice A m cap] 24)) = w0 at HBX hb0 ⊢
      obtain ⟨c0, c1, c2, c3, c4⟩ := HBX.out w0 (Below.refl _ _)
      go_upto_region 2 with (go_at_call 34; refine (H3.out _ hb0).mono ?_; rintro e w1 ⟨rfl, hb1⟩)
      have hb2 := trans_b hb0 hb1
      clear HBX c0 c1 c2 c3 c4 hb0 hb1
      go_upto_region 4 with fail
      have hb3 : Below w.heap.size w (w1.alloc (.cells #[.int .i64 3, .int .i64 fc, .int .i64 fn, .string fs, .slice fA fm fcap] 24)) := hb2.alloc hb2.size _
      have e2 : (w1.alloc (.cells #[.int .i64 3, .int .i64 fc, .int .i64 fn, .string fs, .slice fA fm fcap] 24)).cell? ⟨w1.heap.size, 2, none⟩ = some (.int .i64 fn) := by simp
      have e3 : (w1.alloc (.cells #[.int .i64 3, .int .i64 fc, .int .i64 fn, .string fs, .slice fA fm fcap] 24)).cell? ⟨w1.heap.size, 3, none⟩ = some (.string fs) := by simp
      show Code.wp _ _ _ _ (w1.alloc (.cells #[.int .i64 3, .int .i64 fc, .int .i64 fn, .string fs, .slice fA fm fcap] 24))
      generalize (w1.alloc (.cells #[.int .i64 3, .int .i64 fc, .int .i64 fn, .string fs, .slice fA fm fcap] 24)) = w2 at *
      go_quiet (fail)
      go_wp2
      refine bodyPost_ret (v := .tuple #[.int .i64 fn, .string fs, .bool true]) ?_ rfl ⟨rfl, ?_⟩
      · simp [results, Tryd.results11, asAddr, Act.put]
      · exact ⟨hb3.os, hb3.tape, hb3.output, hb3.size, hb3.block⟩
end Go.Proofs.YtfjgjhicinaolaaDoor
