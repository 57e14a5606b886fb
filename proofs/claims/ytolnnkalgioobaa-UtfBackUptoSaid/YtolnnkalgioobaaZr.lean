/- UtfBack, of whatever came in. -/
import Derived.OpenShut
import Derived.Test.YtolnnkalgioobaaRows
import Derived.Test.YtolnnkalgioobaaZq
namespace Go.Proofs.Ytolnnkalgioobaa
open Go.RowKit
set_option maxRecDepth 100000
set_option linter.unusedVariables false
set_option linter.unusedSimpArgs false
set_option linter.unnecessarySimpa false

theorem bulk_one {H : Type} (d : DataW H) : 1 ≤ Rows.uptoBulk d := by
  cases d with
  | lit l => cases l <;> simp [Rows.uptoBulk]
  | nil => simp [Rows.uptoBulk]
  | ptr d => simp [Rows.uptoBulk]
  | slice elems spare => simp [Rows.uptoBulk]
  | agg parts => simp [Rows.uptoBulk]
  | iface t d => simp [Rows.uptoBulk]
  | map entries => simp [Rows.uptoBulk]
  | held h => simp [Rows.uptoBulk]
theorem bulk_len {H : Type} (l : List (DataW H)) : l.length ≤ Rows.uptoBulkAll l := by
  induction l with
  | nil => simp [Rows.uptoBulkAll]
  | cons x r ih => have := bulk_one x; simp only [Rows.uptoBulkAll, List.length_cons]; omega
theorem bulk_slice {H : Type} (elems spare : List (DataW H)) : elems.length + spare.length + 1 ≤ Rows.uptoBulk (.slice elems spare) := by
  have h1 := bulk_len elems
  have h2 := bulk_len spare
  simp only [Rows.uptoBulk]
  omega
def IsRow (k : IntKind) (w : World) (a : Option Addr) (len cap : Nat) (zs : List Int) : Prop :=
  (a = none ∧ len = 0 ∧ cap = 0 ∧ zs = []) ∨
  ∃ x, a = some x ∧ len ≤ cap ∧ cap ≤ maxLen ∧ zs.length = cap ∧ (∀ i, i < zs.length → w.cell? (x.add i) = some (.int k (zs.getD i 0))) ∧ ∀ n ∈ zs, (Lit.int k n).wf = true
theorem IsRow.rk {k : IntKind} {w : World} {a : Option Addr} {len cap : Nat} {zs : List Int} (h : IsRow k w a len cap zs) : ∃ xs, xs.length = len ∧ (∀ y ∈ xs, (Lit.int k y).wf = true) ∧ RK w k a xs ∧ len ≤ cap := by
  rcases h with ⟨rfl, rfl, rfl, rfl⟩ | ⟨x, rfl, hl, hm, hz, hcell, hwz⟩
  · exact ⟨[], rfl, (fun y hy => by cases hy), .inl rfl, Nat.le_refl _⟩
  · refine ⟨zs.take len, by rw [List.length_take]; omega, fun y hy => hwz y (List.mem_of_mem_take hy), ?_, hl⟩
    by_cases h0 : zs.length = 0
    · left
      rw [List.length_eq_zero_iff.1 h0]
      simp
    · obtain ⟨b, off, rfl, hc⟩ := _root_.Go.ints_at hcell (by omega)
      refine .inr ⟨b, off, rfl, fun j hj => ?_⟩
      rw [List.length_take] at hj
      rw [hc j (by omega)]
      simp only [List.getD_eq_getElem?_getD, List.getElem?_take]
      rw [if_pos (by omega)]
theorem unitsPs_16 : ∀ l : List Int, (∀ p ∈ l, isPt p = true) → ∀ x ∈ unitsPs l, 0 ≤ x ∧ x ≤ 65535
  | [], _, x, h => by simp [unitsPs] at h
  | p :: l, hp, x, h => by
    rw [unitsPs_cons] at h
    have h1 := (isPt_iff p).1 (hp p (by simp))
    rcases List.mem_append.1 h with h | h
    · unfold unitsL at h
      split at h <;> simp only [List.mem_cons, List.not_mem_nil, or_false] at h <;> omega
    · exact unitsPs_16 l (fun q hq => hp q (by simp [hq])) x h
theorem backW (s : ByteArray) (a1 : Option Addr) (len1 cap1 : Nat) (z1 : List Int) (a2 : Option Addr) (len2 cap2 : Nat) (z2 : List Int) (w : World) (hs : s.size ≤ 1048576)
    (w1 : IsRow .i32 w a1 len1 cap1 z1) (h1 : len1 ≤ 1048576) (w2 : IsRow .u16 w a2 len2 cap2 z2) (h2 : len2 ≤ 1048576) :
    Calls Try.prog 9 #[.string s, .slice a1 len1 cap1, .slice a2 len2 cap2] w fun e w' => e = .returned (.bool true) ∧ Below w.heap.size w w' := by
  obtain ⟨l, l1, l2, l3, _⟩ := w1.rk
  obtain ⟨u, u1, u2, u3, _⟩ := w2.rk
  have ub : ∀ x ∈ u, 0 ≤ x ∧ x ≤ 65535 := fun x hx => bounds_u16 (u2 x hx)
  by_cases g : badF s = s.size
  · have t := ptsF_text g
    have tl := t.len
    have hu := units_highs (ptsF s)
    have hh : highs (ptsF s) ≤ (ptsF s).length := List.length_filter_le _ _
    refine back_walk s a1 len1 cap1 l a2 len2 cap2 u w true _ _ (highs (ptsF s)) (ptsF s) (unitsPs (ptsF s)) hs l1 h1 u1 h2 rfl rfl (by omega) (by omega) (by omega) l3 u3 ub ?_ ?_ ?_ ?_ ?_
    · exact Runes_is s (by omega) g _ rfl _ rfl
    · exact Units_is s (by omega) g _ rfl _ rfl
    · rw [g]; simp
    · exact fun _ => ⟨text_back t, t.pts, fuP_units _ t.pts, unitsPs_16 _ t.pts, hu, rfl⟩
    · intro h; cases h
  · have hlt : badF s < s.size := by have := bad_le s; omega
    refine back_walk s a1 len1 cap1 l a2 len2 cap2 u w false 0 0 0 [] [] hs l1 h1 u1 h2 rfl rfl (by omega) (by omega) (by omega) l3 u3 ub ?_ ?_ ?_ ?_ ?_
    · exact fun W => (Runes_bad s W (by omega) hlt).mono fun e w' ⟨he, hw⟩ => ⟨none, 0, he, .inl rfl, by subst hw; exact Below.refl _ _⟩
    · exact fun W => (Units_bad s W (by omega) hlt).mono fun e w' ⟨he, hw⟩ => ⟨none, 0, he, .inl rfl, by subst hw; exact Below.refl _ _⟩
    · simp; omega
    · intro h; cases h
    · exact fun _ => ⟨rfl, rfl⟩
end Go.Proofs.Ytolnnkalgioobaa
