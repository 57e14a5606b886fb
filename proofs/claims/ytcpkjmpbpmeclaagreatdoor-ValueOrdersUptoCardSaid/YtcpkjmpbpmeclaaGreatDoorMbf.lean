/- An argument that is a value, opened. -/
import Derived.Test.YtcpkjmpbpmeclaaGreatDoorMac
import Derived.Test.YtcpkjmpbpmeclaaGreatDoorRows
import Derived.SliceStrings
import Derived.OpenShut
import Derived.ChangeOld
namespace Go.Proofs.YtcpkjmpbpmeclaaGreatDoor
open Go.ChangeShapes Go.WideShapes Go.RowKit
set_option maxRecDepth 100000
set_option linter.unusedVariables false
set_option linter.unusedSimpArgs false
set_option linter.unnecessarySimpa false

section
variable {H : Type} {enc : TypeId × Value → H} {w : World} {base : Nat} {spare : Nat → Bool} {held : Bool}
theorem szL_bulk : ∀ (l : List VT) (ds : List (DataW H)), l.length = ds.length → (∀ i (h : i < l.length) (h2 : i < ds.length), (l[i]).sz ≤ Rows.uptoBulk (ds[i])) → VT.szL l ≤ Rows.uptoBulkAll ds
 | [], _, _, _ => by simp [VT.szL]
 | x :: l, [], h, _ => by simp at h
 | x :: l, d :: ds, h, hh => by
  have h0 := hh 0 (by simp) (by simp)
  have := szL_bulk l ds (by simpa using h) fun i h1 h2 => by have := hh (i + 1) (by simpa using h1) (by simpa using h2); simpa only [List.getElem_cons_succ] using this
  simp only [VT.szL, Rows.uptoBulkAll]
  simp at h0
  omega
theorem bulk_one {d : DataW H} : 1 ≤ Rows.uptoBulk d := by
 cases d with
 | lit l => cases l <;> simp [Rows.uptoBulk]
 | nil => simp [Rows.uptoBulk]
 | ptr d => simp [Rows.uptoBulk]
 | slice elems spare => simp [Rows.uptoBulk]
 | agg parts => simp [Rows.uptoBulk]
 | iface t d => simp [Rows.uptoBulk]
 | map entries => simp [Rows.uptoBulk]
 | held h => simp [Rows.uptoBulk]
theorem bulk_len : ∀ (l : List (DataW H)), l.length ≤ Rows.uptoBulkAll l
 | [] => by simp [Rows.uptoBulkAll]
 | x :: r => by have := bulk_len r; have := bulk_one (d := x); simp only [Rows.uptoBulkAll, List.length_cons]; omega
theorem add_off (b off i j : Nat) : ((⟨b, off, none⟩ : Addr).add i).add j = ⟨b, off + i + j, none⟩ := by
 have h : ∀ (o k : Nat), (⟨b, o, none⟩ : Addr).add k = ⟨b, o + k, none⟩ := by intro o k; unfold Addr.add; split <;> simp_all
 rw [h, h]
/-- The limbs of a number. -/
theorem open_limbs {fuel : Nat} {c : Value} {x : DataW H × List MemPlace} (h : DataW.trod enc Tryz.prog w base spare held fuel 26 [c] = some x) :
  ∃ A cap mag, c = .slice A mag.length cap ∧ mag.length ≤ cap ∧ RK w .u32 A mag ∧ (∀ y ∈ mag, 0 ≤ y ∧ y ≤ 4294967295) ∧ mag.length + 1 ≤ Rows.uptoBulk x.1 ∧ (A = none → cap = 0) := by
 rcases DataW.trod_slice Tryz.underlying26 h with ⟨e4, rfl⟩ | ⟨A, len, cap, elems, rest, m, rfl, e4, rfl, _, hlc, hcm, hel, helems, _, _⟩
 ·simp only [List.cons.injEq, and_true] at e4
  subst e4
  exact ⟨none, 0, [], rfl, Nat.le_refl _, .inl rfl, (fun y hy => by cases hy), by simp [Rows.uptoBulk], fun _ => rfl⟩
 ·simp only [List.cons.injEq, and_true] at e4
  subst e4
  have k1 : Tryz.prog.cellsOf 92 = 1 := by kernel_rfl
  have hex : ∀ i, ∃ y : Int, i < len → w.cell? (A.add i) = some (.int .u32 y) ∧ 0 ≤ y ∧ y ≤ 4294967295 := by
   intro i
   by_cases hi : i < len
   ·have h1 := helems i hi
    rw [k1, Nat.mul_one] at h1
    have hi2 : i < elems.length := by omega
    rw [List.getElem?_eq_getElem hi2] at h1
    obtain ⟨ds, hds, htr⟩ := Option.bind_eq_some_iff.1 h1
    obtain ⟨_, hl1, hcell⟩ := World.cells?_some hds
    obtain ⟨y, e0, q0, w0⟩ := DataW.trod_int Tryz.underlying92 htr
    have hb := bounds_u32 w0
    refine ⟨y, fun _ => ⟨?_, hb.1, hb.2⟩⟩
    have h2 := hcell 0 (by omega)
    rw [e0] at h2
    have ha : (A.add i).add 0 = A.add i := by simp [Addr.add]
    rw [ha] at h2
    exact h2
   ·exact ⟨0, fun h => absurd h hi⟩
  obtain ⟨f, hf⟩ := Classical.skolem.1 hex
  have hl : ((List.range len).map f).length = len := by simp
  refine ⟨some A, cap, (List.range len).map f, by rw [hl], by rw [hl]; exact hlc, ?_, fun y hy => ?_, ?_, (fun h => by cases h)⟩
  ·by_cases h0 : len = 0
   ·subst h0; exact .inl rfl
   ·obtain ⟨b, off, spot⟩ := A
    have hc0 := (hf 0 (by omega)).1
    have hs : spot = none := by
     have := World.cell?_spot hc0
     simpa [Addr.add] using this
    subst hs
    refine .inr ⟨b, off, rfl, fun j hj => ?_⟩
    rw [hl] at hj
    have h1 := (hf j hj).1
    have ha : (⟨b, off, none⟩ : Addr).add j = ⟨b, off + j, none⟩ := by unfold Addr.add; split <;> simp_all
    rw [ha] at h1
    rw [h1]
    simp [List.getD_eq_getElem?_getD, hj]
  ·simp only [List.mem_map, List.mem_range] at hy
   obtain ⟨i, hi, rfl⟩ := hy
   exact (hf i hi).2
  ·have := bulk_len (elems.map (·.1))
   rw [hl]
   simp only [Rows.uptoBulk, List.length_map] at this ⊢
   omega
theorem open_value_n (fuel : Nat) : ∀ (cs : List Value) (x : DataW H × List MemPlace), DataW.trod enc Tryz.prog w base spare held fuel 31 cs = some x → ∃ v : VT, cs = v.cells ∧ In w v ∧ v.sz ≤ Rows.uptoBulk x.1 := by
 induction fuel using Nat.strongRecOn with
 | _ fuel ih =>
  intro cs x hx
  obtain ⟨xs, n, hnf, rfl, hsz, hlen, hg⟩ := DataW.trod_struct Tryz.underlying31 hx
  have hsz8 : cs.length = 8 := hsz.trans (by kernel_rfl)
  match cs, hsz8 with
  | [c0, c1, c2, c3, c4, c5, c6, c7], _ =>
   match xs, hlen with
   | [y0, y1, y2, y3, y4, y5, y6], _ =>
    have g0 := hg 0 _ rfl
    have g1 := hg 1 _ rfl
    have g2 := hg 2 _ rfl
    have g3 := hg 3 _ rfl
    have g4 := hg 4 _ rfl
    have g5 := hg 5 _ rfl
    have g6 := hg 6 _ rfl
    have k0 : Tryz.prog.cellsOf 23 = 1 := by kernel_rfl
    have k1 : Tryz.prog.cellsOf 24 = 1 := by kernel_rfl
    have k2 : Tryz.prog.cellsOf 28 = 2 := by kernel_rfl
    have k3 : Tryz.prog.cellsOf 22 = 1 := by kernel_rfl
    have k4 : Tryz.prog.cellsOf 9 = 1 := by kernel_rfl
    have k5 : Tryz.prog.cellsOf 29 = 1 := by kernel_rfl
    have k8 : Tryz.prog.cellsOf 31 = 8 := by kernel_rfl
    have kb : Tryz.prog.cellsOf 4 = 1 := by kernel_rfl
    have kn : Tryz.prog.cellsOf 26 = 1 := by kernel_rfl
    simp [k0, k1, k2, k3, k4, k5] at g0 g1 g2 g3 g4 g5 g6
    obtain ⟨x0, e0, q0, w0⟩ := DataW.trod_int Tryz.underlying23 g0
    obtain ⟨x1, e1, q1, w1⟩ := DataW.trod_int Tryz.underlying24 g1
    obtain ⟨zs, n2, _, q2, hsz2, hlen2, hg2⟩ := DataW.trod_struct Tryz.underlying28 g2
    match zs, hlen2 with
    | [z0, z1], _ =>
     have i0 := hg2 0 _ rfl
     have i1 := hg2 1 _ rfl
     simp [kb, kn] at i0 i1
     obtain ⟨ng, en, qn⟩ := DataW.trod_bool Tryz.underlying4 i0
     obtain ⟨mA, mcap, mag, em, ml, mr, mb, mz, mz0⟩ := open_limbs i1
     obtain ⟨x3, e3, q3, w3⟩ := DataW.trod_int Tryz.underlying24 g3
     obtain ⟨x4, e4, q4, w4⟩ := DataW.trod_int Tryz.underlying22 g4
     obtain ⟨x5, e5, q5, w5⟩ := DataW.trod_string Tryz.underlying9 g5
     simp only [List.cons.injEq, and_true] at e0 e1 en e3 e4 e5
     subst e0 e1 en em e3 e4 e5 q0 q1 q3 q4 q5
     have b0 := bounds_i8 w0
     have b1 := bounds_u64 w1
     have b3 := bounds_u64 w3
     have b4 := bounds_i8 w4
     rcases DataW.trod_slice Tryz.underlying29 g6 with ⟨e7, rfl⟩ | ⟨A, len, cap, elems, rest, m, rfl, e7, rfl, _, hlc, hcm, hel, helems, _, _⟩
     ·simp only [List.cons.injEq, and_true] at e7
      subst e7
      refine ⟨.mk x0 x1 ng mA mcap mag x3 x4 x5 none 0 [], rfl, In.mk ⟨⟨b0, b1, b3, b4, mb⟩, ml, mr, Nat.le_refl _, by show (0 : Nat) ≤ _; omega, .inl rfl, trivial, mz0, fun _ => rfl⟩, ?_⟩
      have hlen5 : x5.size = x5.data.toList.length := by rw [Array.length_toList]; rfl
      have q2' : y2.1 = .agg (z0.1 :: [z1.1]) := by rw [q2]; simp
      simp only [VT.sz, VT.szL, Rows.uptoBulk, Rows.uptoBulkAll, List.map_cons, List.map_nil, q2']
      have := bulk_one (d := z0.1)
      omega
     ·simp only [List.cons.injEq, and_true] at e7
      subst e7
      have hex : ∀ i, ∃ N : VT, i < len → (∀ j u, N.cells[j]? = some u → w.cell? ((A.add (i * 8)).add j) = some u) ∧ In w N ∧ ∀ (h : i < elems.length), N.sz ≤ Rows.uptoBulk (elems[i]).1 := by
       intro i
       by_cases hi : i < len
       ·have h1 := helems i hi
        rw [k8] at h1
        have hi2 : i < elems.length := by omega
        rw [List.getElem?_eq_getElem hi2] at h1
        obtain ⟨ds, hds, htr⟩ := Option.bind_eq_some_iff.1 h1
        obtain ⟨N, rfl, hN1, hN2⟩ := ih m (by omega) ds _ htr
        obtain ⟨_, hl5, hcell⟩ := World.cells?_some hds
        refine ⟨N, fun _ => ⟨fun j u hu => ?_, hN1, fun _ => hN2⟩⟩
        have hj : j < 8 := by
         have := (List.getElem?_eq_some_iff.1 hu).1
         omega
        exact (hcell j hj).trans hu
       ·exact ⟨.mk 0 0 false none 0 [] 0 0 ⟨#[]⟩ none 0 [], fun h => absurd h hi⟩
      obtain ⟨f, hf⟩ := Classical.skolem.1 hex
      have hl : ((List.range len).map f).length = len := by simp
      have hnm : m < fuel := by omega
      refine ⟨.mk x0 x1 ng mA mcap mag x3 x4 x5 (some A) cap ((List.range len).map f), by simp [VT.cells, VT.kids, VT.mags, VT.k, VT.n, VT.neg, VT.mA, VT.mcap, VT.mag, VT.bits, VT.ext, VT.text, VT.A, VT.cap, VT.l], In.mk ⟨⟨b0, b1, b3, b4, mb⟩, ml, mr, by show _ ≤ cap; rw [show (VT.l (.mk x0 x1 ng mA mcap mag x3 x4 x5 (some A) cap ((List.range len).map f))) = (List.range len).map f from rfl, hl]; exact hlc, hcm, ?_, InL.of fun N hN => ?_, mz0, (fun h => by cases h)⟩, ?_⟩
      ·by_cases h0 : len = 0
       ·subst h0; exact .inl rfl
       ·obtain ⟨b, off, spot⟩ := A
        have hc0 := (hf 0 (by omega)).1 0 _ rfl
        have hs : spot = none := by
         have := World.cell?_spot hc0
         simpa [Addr.add] using this
        subst hs
        refine .inr ⟨b, off, rfl, fun i hi j u hu => ?_⟩
        have hi' : i < len := by rw [← hl]; exact hi
        have hu' : (f i).cells[j]? = some u := by
         have e : (VT.l (.mk x0 x1 ng mA mcap mag x3 x4 x5 (some ⟨b, off, none⟩) cap ((List.range len).map f)))[i] = f i := by
          show ((List.range len).map f)[i]'(by rw [hl]; exact hi') = f i
          simp
         rw [e] at hu
         exact hu
        have := (hf i hi').1 j u hu'
        rwa [add_off] at this
      ·have hN' : N ∈ (List.range len).map f := hN
       simp only [List.mem_map, List.mem_range] at hN'
       obtain ⟨i, hi, rfl⟩ := hN'
       exact (hf i hi).2.1
      ·have hL : VT.szL ((List.range len).map f) ≤ Rows.uptoBulkAll (elems.map (·.1)) := by
        refine szL_bulk _ _ (by simp [hel]) fun i h1 h2 => ?_
        simp only [List.getElem_map, List.getElem_range]
        rw [hl] at h1
        exact (hf i h1).2.2 (by omega)
       have hlen5 : x5.size = x5.data.toList.length := by rw [Array.length_toList]; rfl
       have q2' : y2.1 = .agg (z0.1 :: [z1.1]) := by rw [q2]; simp
       simp only [VT.sz, Rows.uptoBulk, Rows.uptoBulkAll, List.map_cons, List.map_nil, q2']
       have := bulk_one (d := z0.1)
       omega
theorem open_value {r : Reach} {b0 : Nat} {v : Value} {d : DataW H} {p : List MemPlace} (hv : Value.okWide Tryz.prog w r b0 31 v) (h : DataW.Trod enc Tryz.prog w base spare held 31 v d p) :
  ∃ N : VT, v = N.agg ∧ In w N ∧ N.sz ≤ Rows.uptoBulk d := by
 obtain ⟨cs, rfl, hsz⟩ := okWide_struct Tryz.underlying31 hv
 obtain ⟨fuel, hf⟩ := h
 obtain ⟨N, h1, h2, h3⟩ := open_value_n fuel _ _ hf
 refine ⟨N, ?_, h2, h3⟩
 obtain ⟨l⟩ := cs
 unfold VT.agg
 have : l = N.cells := by simpa [Value.cells] using h1
 rw [this]; rfl
end
end Go.Proofs.YtcpkjmpbpmeclaaGreatDoor
