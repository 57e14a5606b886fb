/- FaultFirst: the argument opened. -/
import Derived.Test.YtfjgjhicinaolaaDoorY2
namespace Go.Proofs.YtfjgjhicinaolaaDoor
open Go.ChangeShapes Go.WideShapes Go.RowKit Go.Extern.Stop Go.Stop Go.Extern
set_option maxRecDepth 100000
set_option linter.unusedVariables false
set_option linter.unusedSimpArgs false
set_option linter.unnecessarySimpa false

section
variable {H : Type} {enc : TypeId × Value → H} {w : World} {base : Nat} {spare : Nat → Bool} {held : Bool}
theorem open_nodes {r : Reach} {b0 : Nat} {v : Value} {d : DataW H} {p : List MemPlace} (hv : Value.okWide Tryd.prog w r b0 22 v) (h : DataW.Trod enc Tryd.prog w base spare held 22 v d p) :
    ∃ A n cap L, v = .slice A n cap ∧ L.length = n ∧ (n ≤ cap ∧ cap ≤ 9223372036854775807) ∧ NRow w A L ∧ InL w L ∧ ND.szL L ≤ Rows.uptoBulk d := by
  obtain ⟨A0, n0, cap0, rfl⟩ := okWide_slice Tryd.underlying22 hv
  obtain ⟨fuel, hf⟩ := h
  have k24 : Tryd.prog.cellsOf 24 = 5 := by kernel_rfl
  rcases DataW.trod_slice Tryd.underlying22 hf with ⟨e4, hx⟩ | ⟨A, len, cap, elems, rest, m, rfl, e4, hx, _, hlc, hcm, hel, helems, _, _⟩
  · simp [Value.cells] at e4
    obtain ⟨rfl, rfl, rfl⟩ := e4
    exact ⟨none, 0, 0, [], rfl, rfl, ⟨Nat.le_refl _, by omega⟩, .inl rfl, trivial, by simp [ND.szL]⟩
  · simp [Value.cells] at e4
    obtain ⟨rfl, rfl, rfl⟩ := e4
    simp only [Prod.mk.injEq] at hx
    obtain ⟨rfl, _⟩ := hx
    have hex : ∀ i, ∃ N : ND, i < n0 → (∀ j u, N.cells[j]? = some u → w.cell? ((A.add (i * 5)).add j) = some u) ∧ In w N ∧ ∀ (h : i < elems.length), N.sz ≤ Rows.uptoBulk (elems[i]).1 := by
      intro i
      by_cases hi : i < n0
      · have h1 := helems i hi
        rw [k24] at h1
        have hi2 : i < elems.length := by omega
        rw [List.getElem?_eq_getElem hi2] at h1
        obtain ⟨ds, hds, htr⟩ := Option.bind_eq_some_iff.1 h1
        obtain ⟨N, rfl, hN1, hN2⟩ := open_node_n m ds _ htr
        obtain ⟨_, hl5, hcell⟩ := World.cells?_some hds
        refine ⟨N, fun _ => ⟨fun j u hu => ?_, hN1, fun _ => hN2⟩⟩
        have hj : j < 5 := by
          have := (List.getElem?_eq_some_iff.1 hu).1
          omega
        exact (hcell j hj).trans hu
      · exact ⟨.mk 0 0 0 ⟨#[]⟩ none 0 [], fun h => absurd h hi⟩
    obtain ⟨f, hf⟩ := Classical.skolem.1 hex
    have hl : ((List.range n0).map f).length = n0 := by simp
    refine ⟨some A, n0, cap0, (List.range n0).map f, rfl, hl, ⟨hlc, hcm⟩, ?_, InL.of fun N hN => ?_, ?_⟩
    · by_cases h0 : n0 = 0
      · subst h0; exact .inl rfl
      · obtain ⟨b, off, spot⟩ := A
        have hc0 := (hf 0 (by omega)).1 0 _ rfl
        have hs : spot = none := by
          have := World.cell?_spot hc0
          simpa [Addr.add] using this
        subst hs
        refine .inr ⟨b, off, rfl, fun i hi j u hu => ?_⟩
        rw [hl] at hi
        simp only [List.getElem_map, List.getElem_range] at hu
        have := (hf i hi).1 j u hu
        rwa [add_off] at this
    · simp only [List.mem_map, List.mem_range] at hN
      obtain ⟨i, hi, rfl⟩ := hN
      exact (hf i hi).2.1
    · have hL : ND.szL ((List.range n0).map f) ≤ Rows.uptoBulkAll (elems.map (·.1)) := by
        refine szL_bulk _ _ (by simp [hel]) fun i h1 h2 => ?_
        simp only [List.getElem_map, List.getElem_range]
        rw [hl] at h1
        exact (hf i h1).2.2 (by omega)
      simp only [Rows.uptoBulk]
      omega
end
end Go.Proofs.YtfjgjhicinaolaaDoor
