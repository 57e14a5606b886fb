/- FaultTells: the argument opened; the walk. -/
import Derived.Test.YtfjgjhicinaolaaDoorW5
import Derived.Test.YtfjgjhicinaolaaDoorU
import Derived.Test.YtfjgjhicinaolaaDoorRows
import Derived.SliceStrings
import Derived.OpenShut
import Derived.ChangeOld
namespace Go.Proofs.YtfjgjhicinaolaaDoor
open Go.ChangeShapes Go.WideShapes Go.RowKit Go.Extern.Stop Go.Stop Go.Extern
set_option maxRecDepth 100000
set_option linter.unusedVariables false
set_option linter.unusedSimpArgs false
set_option linter.unnecessarySimpa false

section
variable {H : Type} {enc : TypeId × Value → H} {w : World} {base : Nat} {spare : Nat → Bool} {held : Bool}
theorem szL_bulk : ∀ (l : List ND) (ds : List (DataW H)), l.length = ds.length → (∀ i (h : i < l.length) (h2 : i < ds.length), (l[i]).sz ≤ Rows.uptoBulk (ds[i])) → ND.szL l ≤ Rows.uptoBulkAll ds
  | [], _, _, _ => by simp [ND.szL]
  | x :: l, [], h, _ => by simp at h
  | x :: l, d :: ds, h, hh => by
    have h0 := hh 0 (by simp) (by simp)
    have := szL_bulk l ds (by simpa using h) fun i h1 h2 => by have := hh (i + 1) (by simpa using h1) (by simpa using h2); simpa only [List.getElem_cons_succ] using this
    simp only [ND.szL, Rows.uptoBulkAll]
    simp at h0
    omega
theorem add_off (b off i j : Nat) : ((⟨b, off, none⟩ : Addr).add i).add j = ⟨b, off + i + j, none⟩ := by
  have h : ∀ (o k : Nat), (⟨b, o, none⟩ : Addr).add k = ⟨b, o + k, none⟩ := by intro o k; unfold Addr.add; split <;> simp_all
  rw [h, h]
theorem open_node_n (fuel : Nat) : ∀ (cs : List Value) (x : DataW H × List MemPlace), DataW.trod enc Tryd.prog w base spare held fuel 24 cs = some x → ∃ N : ND, cs = N.cells ∧ In w N ∧ N.sz ≤ Rows.uptoBulk x.1 := by
  induction fuel using Nat.strongRecOn with
  | _ fuel ih =>
    intro cs x hx
    obtain ⟨xs, n, rfl, rfl, hsz, hlen, hg⟩ := DataW.trod_struct Tryd.underlying24 hx
    have hsz5 : cs.length = 5 := hsz.trans (by kernel_rfl)
    match cs, hsz5 with
    | [c0, c1, c2, c3, c4], _ =>
      match xs, hlen with
      | [y0, y1, y2, y3, y4], _ =>
        have g0 := hg 0 _ rfl
        have g1 := hg 1 _ rfl
        have g2 := hg 2 _ rfl
        have g3 := hg 3 _ rfl
        have g4 := hg 4 _ rfl
        have k3 : Tryd.prog.cellsOf 3 = 1 := by kernel_rfl
        have k9 : Tryd.prog.cellsOf 9 = 1 := by kernel_rfl
        have k22 : Tryd.prog.cellsOf 22 = 1 := by kernel_rfl
        have k24 : Tryd.prog.cellsOf 24 = 5 := by kernel_rfl
        simp [k3, k9, k22] at g0 g1 g2 g3 g4
        obtain ⟨x0, e0, q0, w0⟩ := DataW.trod_int Tryd.underlying3 g0
        obtain ⟨x1, e1, q1, w1⟩ := DataW.trod_int Tryd.underlying3 g1
        obtain ⟨x2, e2, q2, w2⟩ := DataW.trod_int Tryd.underlying3 g2
        obtain ⟨x3, e3, q3, w3⟩ := DataW.trod_string Tryd.underlying9 g3
        simp only [List.cons.injEq, and_true] at e0 e1 e2 e3
        subst e0 e1 e2 e3 q0 q1 q2 q3
        rcases DataW.trod_slice Tryd.underlying22 g4 with ⟨e4, rfl⟩ | ⟨A, len, cap, elems, rest, m, rfl, e4, rfl, _, hlc, hcm, hel, helems, _, _⟩
        · simp only [List.cons.injEq, and_true] at e4
          subst e4
          exact ⟨.mk x0 x1 x2 x3 none 0 [], rfl, ⟨Nat.le_refl _, by omega, .inl rfl, trivial⟩, by simp [ND.sz, ND.szL, Rows.uptoBulk]⟩
        · simp only [List.cons.injEq, and_true] at e4
          subst e4
          have hex : ∀ i, ∃ N : ND, i < len → (∀ j u, N.cells[j]? = some u → w.cell? ((A.add (i * 5)).add j) = some u) ∧ In w N ∧ ∀ (h : i < elems.length), N.sz ≤ Rows.uptoBulk (elems[i]).1 := by
            intro i
            by_cases hi : i < len
            · have h1 := helems i hi
              rw [k24] at h1
              have hi2 : i < elems.length := by omega
              rw [List.getElem?_eq_getElem hi2] at h1
              obtain ⟨ds, hds, htr⟩ := Option.bind_eq_some_iff.1 h1
              obtain ⟨N, rfl, hN1, hN2⟩ := ih m (by omega) ds _ htr
              obtain ⟨_, hl5, hcell⟩ := World.cells?_some hds
              refine ⟨N, fun _ => ⟨fun j u hu => ?_, hN1, fun _ => hN2⟩⟩
              have hj : j < 5 := by
                have := (List.getElem?_eq_some_iff.1 hu).1
                omega
              exact (hcell j hj).trans hu
            · exact ⟨.mk 0 0 0 ⟨#[]⟩ none 0 [], fun h => absurd h hi⟩
          obtain ⟨f, hf⟩ := Classical.skolem.1 hex
          have hl : ((List.range len).map f).length = len := by simp
          refine ⟨.mk x0 x1 x2 x3 (some A) cap ((List.range len).map f), by simp [ND.cells, ND.kids, ND.k, ND.c, ND.n, ND.s, ND.A, ND.cap, ND.l], ⟨by rw [hl]; exact hlc, hcm, ?_, InL.of fun N hN => ?_⟩, ?_⟩
          · by_cases h0 : len = 0
            · subst h0; exact .inl rfl
            · obtain ⟨b, off, spot⟩ := A
              have hc0 := (hf 0 (by omega)).1 0 _ rfl
              have hs : spot = none := by
                have := World.cell?_spot hc0
                simpa [Addr.add] using this
              subst hs
              refine .inr ⟨b, off, rfl, fun i hi j u hu => ?_⟩
              rw [hl] at hi
              simp only [List.getElem_map, List.getElem_range] at hu
              have := (hf i hi).1 j u hu
              rwa [add_off] at this
          · simp only [List.mem_map, List.mem_range] at hN
            obtain ⟨i, hi, rfl⟩ := hN
            exact (hf i hi).2.1
          · have hL : ND.szL ((List.range len).map f) ≤ Rows.uptoBulkAll (elems.map (·.1)) := by
              refine szL_bulk _ _ (by simp [hel]) fun i h1 h2 => ?_
              simp only [List.getElem_map, List.getElem_range]
              rw [hl] at h1
              exact (hf i h1).2.2 (by omega)
            simp only [ND.sz, Rows.uptoBulk, Rows.uptoBulkAll, List.map_cons, List.map_nil]
            omega
theorem open_node {r : Reach} {b0 : Nat} {v : Value} {d : DataW H} {p : List MemPlace} (hv : Value.okWide Tryd.prog w r b0 24 v) (h : DataW.Trod enc Tryd.prog w base spare held 24 v d p) :
    ∃ N : ND, v = N.agg ∧ In w N ∧ N.sz ≤ Rows.uptoBulk d := by
  obtain ⟨cs, rfl, hsz⟩ := okWide_struct Tryd.underlying24 hv
  obtain ⟨fuel, hf⟩ := h
  obtain ⟨N, h1, h2, h3⟩ := open_node_n fuel _ _ hf
  refine ⟨N, ?_, h2, h3⟩
  obtain ⟨l⟩ := cs
  unfold ND.agg
  have : l = N.cells := by simpa [Value.cells] using h1
  rw [this]; rfl
end
set_option maxHeartbeats 1000000 in
theorem tellsWalk (N : ND) (w : World) (hS : ∃ a oa, Seat a oa w) (hI : In w N) (hz : N.sz ≤ 1048576) : Calls Tryd.prog 3 #[N.agg] w fun e w' => e = .returned (.bool true) ∧ Below w.heap.size w w' := by
  obtain ⟨a, oa, hS⟩ := hS
  have hE := hS.e
  have hb0 : Below w.heap.size w (w.alloc (.cells #[.int .i64 N.k, .int .i64 N.c, .int .i64 N.n, .string N.s, N.kids] 24)) := (Below.refl _ _).alloc (Nat.le_refl _) _
  have H9 : Hid (∀ W, Below w.heap.size w W → ∃ b, Calls Tryd.prog 9 #[.slice (some ⟨W.heap.size, 0, none⟩) 1 1] (W.alloc (.cells #[.int .i64 N.k, .int .i64 N.c, .int .i64 N.n, .string N.s, N.kids] 24)) fun e w' => e = .returned (.bool b) ∧ Below W.heap.size W w') := Lib.hid fun W hb => by
    have hbn : Below W.heap.size W (W.alloc (.cells #[.int .i64 N.k, .int .i64 N.c, .int .i64 N.n, .string N.s, N.kids] 24)) := (Below.refl _ _).alloc (Nat.le_refl _) _
    have hn := new_at W #[.int .i64 N.k, .int .i64 N.c, .int .i64 N.n, .string N.s, N.kids] 24
    obtain ⟨b, hc⟩ := beyond_any (some ⟨W.heap.size, 0, none⟩) 1 [N] (W.alloc (.cells #[.int .i64 N.k, .int .i64 N.c, .int .i64 N.n, .string N.s, N.kids] 24)) (by simp) (by omega) (.inr ⟨W.heap.size, 0, rfl, fun i hi j u hu => by
      obtain rfl : i = 0 := by simpa using hi
      rw [cell_new hn]
      simpa [ND.cells] using hu⟩) ⟨(hI.below hb).below hbn, trivial⟩ (by simpa [ND.szL] using hz)
    exact ⟨b, hc.mono fun e w' ⟨h1, h2⟩ => ⟨h1, trans_b hbn h2⟩⟩
  have H10 : Hid (∀ W, Below w.heap.size w W → Calls Tryd.prog 10 #[N.agg] W fun e w' => ∃ v, e = .returned v ∧ Hid (∀ W', Below w'.heap.size w' W' → Calls Tryd.prog 12 #[v, .int .i64 N.codeR, .int .i64 (atK (fndK N.fnd)), .string (pathK (fndK N.fnd)), .bool (okK (fndK N.fnd))] W' fun e w2 => e = .returned (.bool true) ∧ Below W'.heap.size W' w2) ∧ Below W.heap.size W w') := Lib.hid fun W hb => by
    refine (build_any a _ N W (Nat.le_refl _) (by omega) (hI.below hb) (hE.below hb)).mono ?_
    rintro e w' ⟨T, h1, h2, h3, h4⟩
    refine ⟨_, h1, Lib.hid fun W' hb' => ?_, h4⟩
    have := tells_yes a T W' (hE.below (trans_b (trans_b hb h4) hb')) ((h2.below hb').holds)
    rwa [h3.code, atO_K, pathO_K, okO_K, h3.fa] at this
  have H11 : Hid (∀ W, Below w.heap.size w W → Calls Tryd.prog 11 #[N.agg] W fun e w' => e = .returned (.tuple #[.int .i64 (atK (fndK N.fnd)), .string (pathK (fndK N.fnd)), .bool (okK (fndK N.fnd))]) ∧ Below W.heap.size W w') := Lib.hid fun W hb => of_walk N W (hI.below hb)
  have H13 : Hid (∀ W, Below w.heap.size w W → Calls Tryd.prog 13 #[N.agg] W fun e w' => e = .returned (.int .i64 N.codeR) ∧ Below W.heap.size W w') := Lib.hid fun W hb => code_walk N W (hI.below hb)
  have H14 : Hid (∀ W, Below w.heap.size w W → Calls Tryd.prog 14 #[] W fun e w' => e = .returned (.bool true) ∧ Below W.heap.size W w') := Lib.hid fun W hb => lives_any a oa W (hS.below hb)
  have HBX := Lib.hid (box_cells N w)
  unfold ND.agg at *
  clear hI hS hE hz
  unfold ND.kids at *
  generalize N.codeR = cd at *
  generalize atK (fndK N.fnd) = xa at *
  generalize pathK (fndK N.fnd) = xp at *
  generalize okK (fndK N.fnd) = xo at *
  generalize N.l.length = m at *
  generalize N.k = k at *
  generalize N.c = c at *
  generalize N.n = nn at *
  generalize N.s = s at *
  generalize N.A = A at *
  generalize N.cap = cap at *
  clear N
  go_enter Tryd.func3, Tryd.ntmps3
  go_upto_region 1 with fail
  show Code.wp _ _ _ _ (w.alloc (.cells #[.int .i64 k, .int .i64 c, .int .i64 nn, .string s, .slice A m cap] 24))
  generalize (w.alloc (.cells #[.int .i64 k, .int .i64 c, .int .i64 nn, .string s, .slice A m cap] 24)) = w0 at HBX hb0 ⊢
  have HB0 := Lib.hid hb0
  obtain ⟨c0, c1, c2, c3, c4⟩ := HBX.out w0 (Below.refl _ _)
  obtain ⟨b, h9⟩ := H9.out w0 hb0
  clear H9 hb0
  cases b with
  | true =>
    go_wp2_with (go_at_call 9; refine h9.mono ?_; rintro e w1 ⟨rfl, hb1⟩)
    go_ret
    exact ⟨rfl, trans_b HB0.out hb1⟩
  | false =>
    go_upto_region 3 with (go_at_call 9; refine h9.mono ?_; rintro e w1 ⟨rfl, hb1⟩)
    obtain ⟨d0, d1, d2, d3, d4⟩ := HBX.out w1 hb1
    clear c0 c1 c2 c3 c4 h9
    have HB1 := Lib.hid (trans_b HB0.out hb1)
    go_upto_region 4 with (go_at_call 10; refine (H10.out _ HB1.out).mono ?_; rintro e w2 ⟨v, rfl, HT, hb2⟩)
    clear d0 d1 d2 d3 d4
    have hq := trans_b hb1 hb2
    have hr := Below.refl w2.heap.size w2
    obtain ⟨d0, d1, d2, d3, d4⟩ := HBX.out _ hq
    clear H10 HB1 hb1 hb2
    go_upto_region 5 with (go_at_call 11; refine (H11.out _ (trans_b HB0.out hq)).mono ?_; rintro e w3 ⟨rfl, hb⟩; replace hq := trans_b hq hb; replace hr := trans_b hr hb; clear hb d0 d1 d2 d3 d4; obtain ⟨d0, d1, d2, d3, d4⟩ := HBX.out _ hq)
    go_wp2_with (first | (go_at_call 13; refine (H13.out _ (trans_b HB0.out hq)).mono ?_; rintro e w4 ⟨rfl, hb⟩; replace hq := trans_b hq hb; replace hr := trans_b hr hb; clear hb d0 d1 d2 d3 d4; obtain ⟨d0, d1, d2, d3, d4⟩ := HBX.out _ hq) | (go_at_call 12; refine (HT.out _ hr).mono ?_; rintro e w5 ⟨rfl, hb⟩; replace hq := trans_b hq hb; replace hr := trans_b hr hb; clear hb d0 d1 d2 d3 d4; obtain ⟨d0, d1, d2, d3, d4⟩ := HBX.out _ hq) | (go_at_call 14; refine (H14.out _ (trans_b HB0.out hq)).mono ?_; rintro e w6 ⟨rfl, hb⟩; replace hq := trans_b hq hb; clear hb))
    go_ret
    exact ⟨rfl, trans_b HB0.out hq⟩
end Go.Proofs.YtfjgjhicinaolaaDoor
