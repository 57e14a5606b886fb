/- FaultMoves: the argument opened, with the sizes of its texts. -/
import Derived.Test.YtfjgjhicinaolaaDoorX1
import Derived.Test.YtfjgjhicinaolaaDoorZ1
import Derived.Test.YtfjgjhicinaolaaDoorZ2
namespace Go.Proofs.YtfjgjhicinaolaaDoor
open Go.ChangeShapes Go.WideShapes Go.RowKit Go.Extern.Stop Go.Stop Go.Extern
set_option maxRecDepth 100000
set_option linter.unusedVariables false
set_option linter.unusedSimpArgs false
set_option linter.unnecessarySimpa false

mutual
/-- How many Nodes, and how many bytes of text. -/
def ND.tz : ND → Nat
  | .mk _ _ _ s _ _ l => s.size + ND.tzL l + 1
def ND.tzL : List ND → Nat
  | [] => 0
  | N :: l => N.tz + ND.tzL l
end
theorem ND.tz_l (N : ND) : N.tz = N.s.size + ND.tzL N.l + 1 := by cases N; rfl
theorem ND.tzL_mem {N : ND} : ∀ {l : List ND}, N ∈ l → N.tz ≤ ND.tzL l
  | x :: l, h => by
    rcases List.mem_cons.1 h with rfl | h
    · simp [ND.tzL]
    · have := ND.tzL_mem h; simp [ND.tzL]; omega
theorem sz_tz_n : ∀ (n : Nat) (N : ND), N.sz ≤ n → N.sz ≤ N.tz := by
  intro n
  induction n with
  | zero => intro N h; have := N.sz_pos; omega
  | succ n ih =>
    intro N h
    have h1 := N.sz_l
    have h2 := N.tz_l
    have : ∀ l : List ND, (∀ x, x ∈ l → x.sz ≤ n) → ND.szL l ≤ ND.tzL l := by
      intro l
      induction l with
      | nil => intro _; exact Nat.le_refl _
      | cons x l ihl =>
        intro hx
        have a1 := ih x (hx x (by simp))
        have a2 := ihl fun y hy => hx y (by simp [hy])
        simp only [ND.szL, ND.tzL]
        omega
    have := this N.l fun x hx => by have := ND.szL_mem hx; omega
    omega
theorem sz_tz (N : ND) : N.sz ≤ N.tz := sz_tz_n _ N (Nat.le_refl _)
theorem fnd_tz_n : ∀ (n : Nat) (N F : ND), N.sz ≤ n → N.fnd = some F → F.s.size ≤ N.tz := by
  intro n
  induction n with
  | zero => intro N F h; have := N.sz_pos; omega
  | succ n ih =>
    intro N F h hF
    have hsz := N.sz_l
    have htz := N.tz_l
    have hL : ∀ l : List ND, (∀ x, x ∈ l → x.sz ≤ n) → ND.fndL l = some F → F.s.size ≤ ND.tzL l := by
      intro l
      induction l with
      | nil => intro _ e; cases e
      | cons x l ihl =>
        intro hx e
        simp only [ND.fndL, ND.tzL] at e ⊢
        cases hxf : x.fnd with
        | some y => rw [hxf] at e; cases e; have := ih x _ (hx x (by simp)) hxf; omega
        | none => rw [hxf] at e; have := ihl (fun z hz => hx z (by simp [hz])) e; omega
    rw [ND.fnd_eq] at hF
    split at hF
    · cases hF
    · split at hF
      · cases hF; omega
      · split at hF
        · cases hl : N.l with
          | nil => rw [hl] at hF; cases hF
          | cons x l =>
            rw [hl] at hF
            have h1 := ND.szL_mem (N := x) (l := N.l) (by rw [hl]; simp)
            have h2 := ND.tzL_mem (N := x) (l := N.l) (by rw [hl]; simp)
            have := ih x F (by omega) hF
            omega
        · split at hF
          · have := hL _ (fun x hx => by have := ND.szL_mem hx; omega) hF; omega
          · cases hF
theorem pathK_tz (N : ND) : (pathK (fndK N.fnd)).size ≤ N.tz := by
  cases h : N.fnd with
  | none => simp only [fndK, pathK]; exact Nat.zero_le _
  | some F =>
    have := fnd_tz_n _ N F (Nat.le_refl _) h
    simp only [fndK]
    split
    · simp only [pathK]; exact Nat.zero_le _
    · simpa only [pathK] using this
section
variable {H : Type} {enc : TypeId × Value → H} {w : World} {base : Nat} {spare : Nat → Bool} {held : Bool}
theorem tzL_bulk : ∀ (l : List ND) (ds : List (DataW H)), l.length = ds.length → (∀ i (h : i < l.length) (h2 : i < ds.length), (l[i]).tz ≤ Rows.uptoBulk (ds[i])) → ND.tzL l ≤ Rows.uptoBulkAll ds
  | [], _, _, _ => by simp [ND.tzL]
  | x :: l, [], h, _ => by simp at h
  | x :: l, d :: ds, h, hh => by
    have h0 := hh 0 (by simp) (by simp)
    have := tzL_bulk l ds (by simpa using h) fun i h1 h2 => by have := hh (i + 1) (by simpa using h1) (by simpa using h2); simpa only [List.getElem_cons_succ] using this
    simp only [ND.tzL, Rows.uptoBulkAll]
    simp at h0
    omega
theorem open_node2_n (fuel : Nat) : ∀ (cs : List Value) (x : DataW H × List MemPlace), DataW.trod enc Tryd.prog w base spare held fuel 24 cs = some x → ∃ N : ND, cs = N.cells ∧ In w N ∧ N.tz ≤ Rows.uptoBulk x.1 := by
  induction fuel using Nat.strongRecOn with
  | _ fuel ih =>
    intro cs x hx
    obtain ⟨xs, n, rfl, rfl, hsz, hlen, hg⟩ := DataW.trod_struct Tryd.underlying24 hx
    have hsz5 : cs.length = 5 := hsz.trans (by kernel_rfl)
    match cs, hsz5 with
    | [c0, c1, c2, c3, c4], _ =>
      match xs, hlen with
      | [y0, y1, y2, y3, y4], _ =>
        have g0 := hg 0 _ rfl
        have g1 := hg 1 _ rfl
        have g2 := hg 2 _ rfl
        have g3 := hg 3 _ rfl
        have g4 := hg 4 _ rfl
        have k3 : Tryd.prog.cellsOf 3 = 1 := by kernel_rfl
        have k9 : Tryd.prog.cellsOf 9 = 1 := by kernel_rfl
        have k22 : Tryd.prog.cellsOf 22 = 1 := by kernel_rfl
        have k24 : Tryd.prog.cellsOf 24 = 5 := by kernel_rfl
        simp [k3, k9, k22] at g0 g1 g2 g3 g4
        obtain ⟨x0, e0, q0, w0⟩ := DataW.trod_int Tryd.underlying3 g0
        obtain ⟨x1, e1, q1, w1⟩ := DataW.trod_int Tryd.underlying3 g1
        obtain ⟨x2, e2, q2, w2⟩ := DataW.trod_int Tryd.underlying3 g2
        obtain ⟨x3, e3, q3, w3⟩ := DataW.trod_string Tryd.underlying9 g3
        simp only [List.cons.injEq, and_true] at e0 e1 e2 e3
        subst e0 e1 e2 e3 q0 q1 q2 q3
        rcases DataW.trod_slice Tryd.underlying22 g4 with ⟨e4, rfl⟩ | ⟨A, len, cap, elems, rest, m, rfl, e4, rfl, _, hlc, hcm, hel, helems, _, _⟩
        · simp only [List.cons.injEq, and_true] at e4
          subst e4
          exact ⟨.mk x0 x1 x2 x3 none 0 [], rfl, ⟨Nat.le_refl _, by omega, .inl rfl, trivial⟩, by have := size_list x3; simp only [ND.tz, ND.tzL, Rows.uptoBulk, Rows.uptoBulkAll, List.map_cons, List.map_nil]; omega⟩
        · simp only [List.cons.injEq, and_true] at e4
          subst e4
          have hex : ∀ i, ∃ N : ND, i < len → (∀ j u, N.cells[j]? = some u → w.cell? ((A.add (i * 5)).add j) = some u) ∧ In w N ∧ ∀ (h : i < elems.length), N.tz ≤ Rows.uptoBulk (elems[i]).1 := by
            intro i
            by_cases hi : i < len
            · have h1 := helems i hi
              rw [k24] at h1
              have hi2 : i < elems.length := by omega
              rw [List.getElem?_eq_getElem hi2] at h1
              obtain ⟨ds, hds, htr⟩ := Option.bind_eq_some_iff.1 h1
              obtain ⟨N, rfl, hN1, hN2⟩ := ih m (by omega) ds _ htr
              obtain ⟨_, hl5, hcell⟩ := World.cells?_some hds
              refine ⟨N, fun _ => ⟨fun j u hu => ?_, hN1, fun _ => hN2⟩⟩
              have hj : j < 5 := by
                have := (List.getElem?_eq_some_iff.1 hu).1
                omega
              exact (hcell j hj).trans hu
            · exact ⟨.mk 0 0 0 ⟨#[]⟩ none 0 [], fun h => absurd h hi⟩
          obtain ⟨f, hf⟩ := Classical.skolem.1 hex
          have hl : ((List.range len).map f).length = len := by simp
          refine ⟨.mk x0 x1 x2 x3 (some A) cap ((List.range len).map f), by simp [ND.cells, ND.kids, ND.k, ND.c, ND.n, ND.s, ND.A, ND.cap, ND.l], ⟨by rw [hl]; exact hlc, hcm, ?_, InL.of fun N hN => ?_⟩, ?_⟩
          · by_cases h0 : len = 0
            · subst h0; exact .inl rfl
            · obtain ⟨b, off, spot⟩ := A
              have hc0 := (hf 0 (by omega)).1 0 _ rfl
              have hs : spot = none := by
                have := World.cell?_spot hc0
                simpa [Addr.add] using this
              subst hs
              refine .inr ⟨b, off, rfl, fun i hi j u hu => ?_⟩
              rw [hl] at hi
              simp only [List.getElem_map, List.getElem_range] at hu
              have := (hf i hi).1 j u hu
              rwa [add_off] at this
          · simp only [List.mem_map, List.mem_range] at hN
            obtain ⟨i, hi, rfl⟩ := hN
            exact (hf i hi).2.1
          · have hL : ND.tzL ((List.range len).map f) ≤ Rows.uptoBulkAll (elems.map (·.1)) := by
              refine tzL_bulk _ _ (by simp [hel]) fun i h1 h2 => ?_
              simp only [List.getElem_map, List.getElem_range]
              rw [hl] at h1
              exact (hf i h1).2.2 (by omega)
            have := size_list x3
            simp only [ND.tz, Rows.uptoBulk, Rows.uptoBulkAll, List.map_cons, List.map_nil]
            omega
theorem open_node2 {r : Reach} {b0 : Nat} {v : Value} {d : DataW H} {p : List MemPlace} (hv : Value.okWide Tryd.prog w r b0 24 v) (h : DataW.Trod enc Tryd.prog w base spare held 24 v d p) :
    ∃ N : ND, v = N.agg ∧ In w N ∧ N.tz ≤ Rows.uptoBulk d := by
  obtain ⟨cs, rfl, hsz⟩ := okWide_struct Tryd.underlying24 hv
  obtain ⟨fuel, hf⟩ := h
  obtain ⟨N, h1, h2, h3⟩ := open_node2_n fuel _ _ hf
  refine ⟨N, ?_, h2, h3⟩
  obtain ⟨l⟩ := cs
  unfold ND.agg
  have : l = N.cells := by simpa [Value.cells] using h1
  rw [this]; rfl
end
end Go.Proofs.YtfjgjhicinaolaaDoor
