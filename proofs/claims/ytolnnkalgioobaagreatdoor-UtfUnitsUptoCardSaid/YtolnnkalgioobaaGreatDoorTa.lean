/- The document's Is, Runes, Units. -/
import Derived.Test.YtolnnkalgioobaaGreatDoorY
import Derived.Test.YtolnnkalgioobaaGreatDoorZm
namespace Go.Proofs.YtolnnkalgioobaaGreatDoor
open Go.RowKit
set_option maxRecDepth 100000
set_option linter.unusedVariables false
set_option linter.unusedSimpArgs false
set_option linter.unnecessarySimpa false

theorem refIs_any (s : ByteArray) (w : World) (hs : s.size ≤ 140737488351232) : Calls Tryz.prog 23 #[.string s] w fun e w' => e = .returned (.bool (decide (badF s = s.size))) ∧ Below w.heap.size w w' := by
  have hb := refBad_any s w hs
  have e : ((badF s : Int) == (s.size : Int)) = decide (badF s = s.size) := by
    by_cases h : badF s = s.size
    · rw [h]; simp
    · simp only [h, decide_false, beq_eq_false_iff_ne]; omega
  generalize decide (badF s = s.size) = b at *
  generalize badF s = x at *
  go_enter Tryz.func23, Tryz.ntmps23
  go_wp2_with (go_at_call 85; refine hb.mono ?_; rintro e w1 ⟨rfl, hb1⟩)
  go_ret
  exact ⟨rfl, hb1⟩
theorem rsteps_text {s : ByteArray} {a : Nat} {l : List Int} (h : TextAt s a l) : ∀ k, s.size ≤ a + k → (rsteps k s a).map RStep.point = l := by
  induction h with
  | done => intro k _; rw [rsteps_end (by omega)]; rfl
  | @step a n p l hd ht ih =>
    intro k hk
    have hds := decS_some hd
    obtain ⟨k, rfl⟩ : ∃ q, k = q + 1 := ⟨k - 1, by omega⟩
    have hr : rstep s a = ⟨a, n, p, true⟩ := by unfold rstep; rw [hd]
    rw [rsteps, if_pos (by omega), hr, List.map_cons, ih k (by omega)]
theorem own_down {W : World} {B B' : Nat} {e : TypeId} {k : IntKind} {v : Value} {xs : List Int} (h : Own W B e k v xs) (hb : B' ≤ B) : Own W B' e k v xs := by
  refine ⟨h.1, ?_⟩
  rcases h.2 with h2 | ⟨g, cap, cur, rfl, h1, r⟩
  · exact .inl h2
  · exact .inr ⟨g, cap, cur, rfl, Nat.le_trans hb h1, r⟩
/-- Where the string is a text: the list; else none. -/
def lrOf (s : ByteArray) (l : List Int) : List Int := if badF s = s.size then l else []
theorem info21r : (Tryz.prog.info? 21).map (fun i => (i.zero, i.size, i.bytes)) = some (some (.int .i32 0), 1, 4) := by kernel_rfl
theorem runes_from (s : ByteArray) (L : List RStep) (l : List Int) (w : World) (hL : L.length ≤ 1048576) (hl : L.map RStep.point = l) (hpt : ∀ x ∈ l, 0 ≤ x ∧ x ≤ 1114111)
    (his : Calls Tryz.prog 23 #[.string s] w fun e w' => e = .returned (.bool true) ∧ Below w.heap.size w w')
    (hst : ∀ W, Calls Tryz.prog 24 #[.string s] W fun e w' => ∃ v, e = .returned v ∧ w'.ownsRow W.heap.size 61 4 v L.length (rowOf L) ∧ Below W.heap.size W w') :
    Calls Tryz.prog 5 #[.string s] w fun e w' => ∃ v, e = .returned (.tuple #[v, .bool true]) ∧ Own w' w.heap.size 21 .i32 v l ∧ Below w.heap.size w w' := by
  have hlen : l.length = L.length := by rw [← hl, List.length_map]
  go_enter Tryz.func5, Tryz.ntmps5
  go_upto_region 4 with (first | (go_at_call 23; refine his.mono ?_; rintro e w0 ⟨rfl, hb0⟩) | (go_at_call 24; refine (hst _).mono ?_; rintro e w1 ⟨v, rfl, hv, hb1⟩))
  have hb01 := below_on hb0 hb1
  have HC : Hid (∀ j (h : j < L.length), ∃ g c, v = .slice (some ⟨g, 0, none⟩) L.length c ∧ w1.cell? ⟨g, j * 4 + 2, none⟩ = some (.int .i64 (l.getD j 0))) := Lib.hid fun j hj => by
    rcases hv.2 with ⟨_, h0⟩ | ⟨g, cap, cur, rfl, _, _, _, _, _, _⟩
    · omega
    · refine ⟨g, cap, rfl, ?_⟩
      have h1 := (rowOf_get L j hj).1
      have h2 := World.ownsRow.cells hv rfl _ _ h1
      rw [add_plain] at h2
      rw [h2, ← hl]
      simp [List.getD_eq_getElem?_getD, List.getElem?_map, List.getElem?_eq_getElem hj]
  have hform : ∃ A c, v = .slice A L.length c := by
    rcases hv.2 with ⟨rfl, h0⟩ | ⟨g, cap, cur, rfl, _⟩
    · exact ⟨none, 0, by rw [h0]⟩
    · exact ⟨_, cap, rfl⟩
  obtain ⟨A, c, rfl⟩ := hform
  have HPT := Lib.hid hpt
  have HLEN := Lib.hid hlen
  clear hv hpt hlen hl hst his hb0 hb1
  generalize L.length = n at *
  go_wp2
  go_loopw [5, 6] (fun v i W => ∃ j : Nat, i = .int .i64 j ∧ j ≤ n ∧ Hid (Own W w1.heap.size 21 .i32 v (l.take j)) ∧ Below w1.heap.size w1 W) (fun _ i _ => n - (intOf i).toNat)
  case atStart => exact ⟨0, rfl, by omega, Own.nil _ _ _ _, Below.refl _ _⟩
  case round =>
    obtain ⟨j, rfl, hj, hO, hB⟩ := hrel
    have hBw := below_on hb01 hB
    have hsz := hB.size
    by_cases hlt : j < n
    · obtain ⟨g, c', e, hcell⟩ := HC.out j hlt
      simp only [Value.slice.injEq, true_and] at e
      obtain ⟨rfl, rfl⟩ := e
      have hc2 := (hB.cell (World.block_lt_of_cell? w1 _ hcell)).trans hcell
      have hjl : j < l.length := by rw [HLEN.out]; exact hlt
      have pt := HPT.out (l.getD j 0) (by rw [List.getD_eq_getElem?_getD, List.getElem?_eq_getElem hjl]; exact List.getElem_mem hjl)
      have tk : Hid (l.take (j + 1) = l.take j ++ [l.getD j 0]) := Lib.hid (by rw [List.take_succ_eq_append_getElem hjl]; simp [List.getD_eq_getElem?_getD, List.getElem?_eq_getElem hjl])
      have htl : (l.take j).length ≤ 1048576 := by rw [List.length_take]; omega
      generalize l.getD j 0 = p at hc2 pt tk
      obtain ⟨p0, p1⟩ := pt
      have xc := IntWalk.i32_in p (by omega)
      clear hcell hjl
      go_wp2_with (at_builtin; refine app1 w1.heap.size rfl (.tmp 18) (.tmp 25) 22 21 .i32 4 rfl Tryz.underlying22 info21r _ (l.take j) _ rfl rfl hO.out hB hsz (by omega) (by omega) ?_; intro v1 w3 ho1 hb1 hg1)
      exact ⟨⟨j + 1, by go_num, by omega, by show Own _ _ _ _ _ _; rw [tk.out]; exact ho1, hb1⟩, by simp [intOf]; omega⟩
    · obtain rfl : j = n := by omega
      have HT : Hid (l.take j = l) := Lib.hid (List.take_of_length_le (by rw [HLEN.out]; exact Nat.le_refl _))
      clear hlt
      go_wp2
      go_ret2
      exact ⟨_, rfl, by have := hO.out; rw [HT.out] at this; exact own_down this hb01.size, hBw⟩
theorem info52u : (Tryz.prog.info? 52).map (fun i => (i.zero, i.size, i.bytes)) = some (some (.int .u16 0), 1, 2) := by kernel_rfl
theorem units_from (s : ByteArray) (l : List Int) (n : Nat) (w : World) (hn : l.length = n) (hL : n ≤ 2097152) (hpt : ∀ x ∈ l, 0 ≤ x ∧ x ≤ 65535)
    (his : Calls Tryz.prog 23 #[.string s] w fun e w' => e = .returned (.bool true) ∧ Below w.heap.size w w')
    (hst : ∀ W, Calls Tryz.prog 78 #[.string s] W fun e w' => ∃ A c, e = .returned (.slice A n c) ∧ RK w' .i64 A l ∧ Below W.heap.size W w') :
    Calls Tryz.prog 15 #[.string s] w fun e w' => ∃ v, e = .returned (.tuple #[v, .bool true]) ∧ Own w' w.heap.size 52 .u16 v l ∧ Below w.heap.size w w' := by
  have HPT := Lib.hid hpt
  have HLEN := Lib.hid hn
  clear hpt hn
  go_enter Tryz.func15, Tryz.ntmps15
  go_upto_region 4 with (first | (go_at_call 23; refine his.mono ?_; rintro e w0 ⟨rfl, hb0⟩) | (go_at_call 78; refine (hst _).mono ?_; rintro e w1 ⟨A, c, rfl, hv, hb1⟩))
  have hb01 := below_on hb0 hb1
  have HV := Lib.hid hv
  clear hv hst his hb0 hb1
  go_wp2
  go_loopw [5, 6] (fun v i W => ∃ j : Nat, i = .int .i64 j ∧ j ≤ n ∧ Hid (Own W w1.heap.size 52 .u16 v (l.take j)) ∧ Below w1.heap.size w1 W) (fun _ i _ => n - (intOf i).toNat)
  case atStart => exact ⟨0, rfl, by omega, Own.nil _ _ _ _, Below.refl _ _⟩
  case round =>
    obtain ⟨j, rfl, hj, hO, hB⟩ := hrel
    have hBw := below_on hb01 hB
    have hsz := hB.size
    by_cases hlt : j < n
    · have hjl : j < l.length := by rw [HLEN.out]; exact hlt
      rcases HV.out.below hB with h0 | ⟨g, off, rfl, hcell⟩
      · rw [h0] at hjl; simp at hjl
      have hc2 := hcell j hjl
      have pt := HPT.out (l.getD j 0) (by rw [List.getD_eq_getElem?_getD, List.getElem?_eq_getElem hjl]; exact List.getElem_mem hjl)
      have tk : Hid (l.take (j + 1) = l.take j ++ [l.getD j 0]) := Lib.hid (by rw [List.take_succ_eq_append_getElem hjl]; simp [List.getD_eq_getElem?_getD, List.getElem?_eq_getElem hjl])
      have htl : (l.take j).length ≤ 2097152 := by rw [List.length_take]; omega
      generalize l.getD j 0 = p at hc2 pt tk
      obtain ⟨p0, p1⟩ := pt
      have xc := IntWalk.u16_in p (by omega)
      clear hcell hjl
      go_wp2_with (at_builtin; refine app1 w1.heap.size rfl (.tmp 18) (.tmp 24) 48 52 .u16 2 rfl Tryz.underlying48 info52u _ (l.take j) _ rfl rfl hO.out hB hsz (by omega) (by omega) ?_; intro v1 w3 ho1 hb1 hg1)
      exact ⟨⟨j + 1, by go_num, by omega, by show Own _ _ _ _ _ _; rw [tk.out]; exact ho1, hb1⟩, by simp [intOf]; omega⟩
    · obtain rfl : j = n := by omega
      have HT : Hid (l.take j = l) := Lib.hid (List.take_of_length_le (by rw [HLEN.out]; exact Nat.le_refl _))
      clear hlt
      go_wp2
      go_ret2
      exact ⟨_, rfl, by have := hO.out; rw [HT.out] at this; exact own_down this hb01.size, hBw⟩
/-- One form for a list that is told where the string is a text. -/
def ListPost (e0 : TypeId) (k : IntKind) (l : List Int) (b : Bool) (w : World) (e : Ending) (w' : World) : Prop :=
  ∃ A c, e = .returned (.tuple #[.slice A l.length c, .bool b]) ∧ Hid (RK w' k A l ∧ Own w' w.heap.size e0 k (.slice A l.length c) l) ∧ Below w.heap.size w w'
theorem ListPost.of {e0 : TypeId} {k : IntKind} {l : List Int} {b : Bool} {w : World} {v : Value} {w' : World} (h : Own w' w.heap.size e0 k v l) (hb : Below w.heap.size w w') : ListPost e0 k l b w (.returned (.tuple #[v, .bool b])) w' := by
  obtain ⟨A, c, rfl, h1, _, _⟩ := h.slice
  exact ⟨A, c, rfl, Lib.hid ⟨h1, h⟩, hb⟩
theorem ListPost.nil {e0 : TypeId} {k : IntKind} {w w' : World} (hb : Below w.heap.size w w') : ListPost e0 k [] false w (.returned (.tuple #[.slice none 0 0, .bool false])) w' :=
  ⟨none, 0, rfl, Lib.hid ⟨.inl rfl, Own.nil _ _ _ _⟩, hb⟩
theorem refRunes_no (s : ByteArray) (w : World) (his : Calls Tryz.prog 23 #[.string s] w fun e w' => e = .returned (.bool false) ∧ Below w.heap.size w w') :
    Calls Tryz.prog 5 #[.string s] w fun e w' => e = .returned (.tuple #[.slice none 0 0, .bool false]) ∧ Below w.heap.size w w' := by
  go_enter Tryz.func5, Tryz.ntmps5
  go_wp2_with (go_at_call 23; refine his.mono ?_; rintro e w0 ⟨rfl, hb0⟩)
  go_ret2
  exact ⟨rfl, hb0⟩
theorem refUnits_no (s : ByteArray) (w : World) (his : Calls Tryz.prog 23 #[.string s] w fun e w' => e = .returned (.bool false) ∧ Below w.heap.size w w') :
    Calls Tryz.prog 15 #[.string s] w fun e w' => e = .returned (.tuple #[.slice none 0 0, .bool false]) ∧ Below w.heap.size w w' := by
  go_enter Tryz.func15, Tryz.ntmps15
  go_wp2_with (go_at_call 23; refine his.mono ?_; rintro e w0 ⟨rfl, hb0⟩)
  go_ret2
  exact ⟨rfl, hb0⟩
theorem units_bounds {l : List Int} (h : ∀ p ∈ l, isPt p = true) : ∀ x ∈ unitsPs l, 0 ≤ x ∧ x ≤ 65535 := by
  intro x hx
  obtain ⟨p, hp, hx⟩ := List.mem_flatMap.1 hx
  have := (isPt_iff p).1 (h p hp)
  unfold unitsL at hx
  split at hx <;> simp only [List.mem_cons, List.not_mem_nil, or_false] at hx <;> omega
theorem units_len2 : ∀ l : List Int, (unitsPs l).length ≤ 2 * l.length
  | [] => by simp [unitsPs]
  | p :: l => by
    have := units_len2 l
    rw [unitsPs_cons, List.length_append, List.length_cons]
    have : (unitsL p).length ≤ 2 := by unfold unitsL; split <;> simp
    omega
theorem refRunes_any (s : ByteArray) (w : World) (hs : s.size ≤ 1048576) : Calls Tryz.prog 5 #[.string s] w (ListPost 21 .i32 (lrOf s (ptsF s)) (decide (badF s = s.size)) w) := by
  have his := refIs_any s w (by omega)
  by_cases hg : badF s = s.size
  · have ht := ptsF_text hg
    simp only [lrOf, hg, if_true, decide_true] at his ⊢
    refine (runes_from s (rsteps s.size s 0) (ptsF s) w (Nat.le_trans (rsteps_len _ _ _ (by omega)) (by omega)) (rsteps_text ht _ (by omega)) (fun x hx => ?_) his (fun W => refSteps_any s W hs)).mono ?_
    · have := (isPt_iff x).1 (ht.pts x hx)
      omega
    · rintro e w' ⟨v, rfl, h1, h2⟩
      exact ListPost.of h1 h2
  · simp only [lrOf, hg, if_false, decide_false] at his ⊢
    refine (refRunes_no s w his).mono ?_
    rintro e w' ⟨rfl, h2⟩
    exact ListPost.nil h2
theorem refUnits_any (s : ByteArray) (w : World) (hs : s.size ≤ 1048576) : Calls Tryz.prog 15 #[.string s] w (ListPost 52 .u16 (lrOf s (unitsPs (ptsF s))) (decide (badF s = s.size)) w) := by
  have his := refIs_any s w (by omega)
  by_cases hg : badF s = s.size
  · have ht := ptsF_text hg
    have hcl := codesF_text ht
    have hll := units_len2 (ptsF s)
    have hpl := ht.len
    simp only [lrOf, hg, if_true, decide_true] at his ⊢
    refine (units_from s (unitsPs (ptsF s)) _ w rfl (by omega) (units_bounds ht.pts) his (fun W => ?_)).mono ?_
    · refine (codes_from s (rsteps s.size s 0) W (Nat.le_trans (rsteps_len _ _ _ (by omega)) (by omega)) (rsteps_pt _ _ _) (refSteps_any s W hs)).mono ?_
      rintro e w' ⟨v, rfl, h1, h2⟩
      rw [show codesL (rsteps s.size s 0) = unitsPs (ptsF s) from hcl] at h1
      obtain ⟨A, c, rfl, h3, _, _⟩ := h1.slice
      exact ⟨A, c, rfl, h3, h2⟩
    · rintro e w' ⟨v, rfl, h1, h2⟩
      exact ListPost.of h1 h2
  · simp only [lrOf, hg, if_false, decide_false] at his ⊢
    refine (refUnits_no s w his).mono ?_
    rintro e w' ⟨rfl, h2⟩
    exact ListPost.nil h2
theorem progRunes_any (s : ByteArray) (w : World) (hs : s.size ≤ 1048576) : Calls Tryz.prog 6 #[.string s] w (ListPost 21 .i32 (lrOf s (ptsF s)) (decide (badF s = s.size)) w) := by
  by_cases hg : badF s = s.size
  · simp only [lrOf, hg, if_true, decide_true]
    refine (Runes_good s w (by omega) hg).mono ?_
    rintro e w' ⟨v, rfl, h1, h2⟩
    exact ListPost.of h1 h2
  · simp only [lrOf, hg, if_false, decide_false]
    refine (Runes_bad s w (by omega) (by have := bad_le s; omega)).mono ?_
    rintro e w' ⟨rfl, rfl⟩
    exact ListPost.nil (Below.refl _ _)
theorem progUnits_any (s : ByteArray) (w : World) (hs : s.size ≤ 1048576) : Calls Tryz.prog 16 #[.string s] w (ListPost 52 .u16 (lrOf s (unitsPs (ptsF s))) (decide (badF s = s.size)) w) := by
  by_cases hg : badF s = s.size
  · simp only [lrOf, hg, if_true, decide_true]
    refine (Units_good s w (by omega) hg).mono ?_
    rintro e w' ⟨v, rfl, h1, h2⟩
    rw [unitsOf_pts] at h1
    exact ListPost.of h1 h2
  · simp only [lrOf, hg, if_false, decide_false]
    refine (Units_bad s w (by omega) (by have := bad_le s; omega)).mono ?_
    rintro e w' ⟨rfl, rfl⟩
    exact ListPost.nil (Below.refl _ _)
end Go.Proofs.YtolnnkalgioobaaGreatDoor
