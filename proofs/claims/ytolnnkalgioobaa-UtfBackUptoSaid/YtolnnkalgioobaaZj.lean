/- The document's All. -/
import Derived.Test.YtolnnkalgioobaaZi
namespace Go.Proofs.Ytolnnkalgioobaa
open Go.RowKit
set_option maxRecDepth 100000
set_option linter.unusedVariables false
set_option linter.unusedSimpArgs false
set_option linter.unnecessarySimpa false

def rowS (x : Step) : RStep := ⟨x.1.1, sizeP x.1.2, x.1.2, true⟩
theorem rsteps_split (s : ByteArray) : ∀ k a, ∃ rest, rsteps k s a = (stepsK k s a).map rowS ++ rest ∧ (rest = [] ∨ ∃ x t, rest = x :: t ∧ x.good = false)
  | 0, a => ⟨[], rfl, .inl rfl⟩
  | k + 1, a => by
    by_cases h : a < s.size
    · rcases hd : decS s a with _ | ⟨p, n⟩
      · rw [stepsK_none hd, rsteps_cons h]
        refine ⟨_, rfl, .inr ⟨_, _, rfl, ?_⟩⟩
        unfold rstep
        rw [hd]
      · have hn : n = sizeP p := dec4_size hd
        have e : rstep s a = ⟨a, n, p, true⟩ := by unfold rstep; rw [hd]
        rw [stepsK_some hd, rsteps_cons h, e]
        obtain ⟨rest, h1, h2⟩ := rsteps_split s k (a + n)
        refine ⟨rest, ?_, h2⟩
        rw [h1, List.map_cons, List.cons_append]
        subst hn
        rfl
    · rw [rsteps_end h, stepsK_none (decS_end (by omega))]
      exact ⟨[], rfl, .inl rfl⟩
theorem rowOf_get0 : ∀ (l : List RStep) (j : Nat) (h : j < l.length), (rowOf l)[j * 4]? = some (.int .i64 (l[j]'h).at')
  | [], j, h => by simp at h
  | x :: l, 0, h => by simp [rowOf, rcells]
  | x :: l, j + 1, h => by
    have ih := rowOf_get0 l j (by simpa using h)
    have e : rowOf (x :: l) = rcells x ++ rowOf l := by simp [rowOf]
    have el : (rcells x).length = 4 := rfl
    rw [e, List.getElem?_append_right (by rw [el]; omega), el, show (j + 1) * 4 - 4 = j * 4 from by omega]
    simpa using ih
/-- The steps lie in memory as the document's list: of each its place and its code point. -/
def RS (W : World) (A : Option Addr) (L : List Step) : Prop :=
  L = [] ∨ ∃ g, A = some ⟨g, 0, none⟩ ∧ ∀ j (h : j < L.length), W.cell? ⟨g, j * 4, none⟩ = some (.int .i64 ((L[j]'h).1.1 : Int)) ∧ W.cell? ⟨g, j * 4 + 2, none⟩ = some (.int .i64 (L[j]'h).1.2)
theorem RS.below {W W1 : World} {A : Option Addr} {L : List Step} (h : RS W A L) (hb : Below W.heap.size W W1) : RS W1 A L := by
  rcases h with h | ⟨g, e, h⟩
  · exact .inl h
  · exact .inr ⟨g, e, fun j hj => ⟨(hb.cell (World.block_lt_of_cell? W _ (h j hj).1)).trans (h j hj).1, (hb.cell (World.block_lt_of_cell? W _ (h j hj).2)).trans (h j hj).2⟩⟩

theorem all_from (s : ByteArray) (L : List RStep) (S : List Step) (rest : List RStep) (m : Nat) (w : World) (hL : L.length ≤ 1048576) (hm : S.length = m) (hs : L = S.map rowS ++ rest) (hr : rest = [] ∨ ∃ x t, rest = x :: t ∧ x.good = false)
    (hst : Calls Try.prog 38 #[.string s] w fun e w' => ∃ v, e = .returned v ∧ w'.ownsRow w.heap.size 27 4 v L.length (rowOf L) ∧ Below w.heap.size w w') :
    Calls Try.prog 17 #[.string s] w fun e w' => ∃ A c, e = .returned (.slice A m c) ∧ RS w' A S ∧ Below w.heap.size w w' := by
  go_enter Try.func17, Try.ntmps17
  go_upto_region 2 with (go_at_call 38; refine hst.mono ?_; rintro e w1 ⟨v, rfl, hv, hb1⟩)
  rcases hv.2 with ⟨rfl, h0⟩ | ⟨g, cap, cur, rfl, hg, hh, hc1, hc2, hc3, hc4⟩
  · have hnil : L = [] := List.eq_nil_of_length_eq_zero h0
    rw [hnil] at hs
    obtain ⟨hs1, hs2⟩ := List.append_eq_nil_iff.1 hs.symm
    have hS : S = [] := by simpa using hs1
    subst hS
    have hm0 : m = 0 := by rw [← hm]; rfl
    have HM := Lib.hid hm0
    clear hm hm0 hs hs1 hs2 hr hL hnil h0
    go_wp2
    go_loopw [4] (fun i W => i = .int .i64 0 ∧ W = w1) (fun _ _ => 0)
    case atStart => exact ⟨rfl, rfl⟩
    case round =>
      obtain ⟨rfl, rfl⟩ := hrel
      go_wp2
      go_ret
      rw [HM.out]
      exact ⟨_, _, rfl, .inl rfl, hb1⟩
  · have HC : Hid (∀ j u, (rowOf L)[j]? = some u → cur[j]? = some u) := fun j u hu => by
      rw [← hc4] at hu
      rw [List.getElem?_take] at hu
      split at hu
      · simpa using hu
      · cases hu
    obtain ⟨k, hk⟩ : ∃ k, L.length = k := ⟨_, rfl⟩
    have hkm : k = m + rest.length := by rw [← hk, hs, List.length_append, List.length_map, hm]
    have HK := Lib.hid hk
    rw [hk] at hc1 hL ⊢
    have hRS : RS w1 (some ⟨g, 0, none⟩) S := by
      refine .inr ⟨g, rfl, fun j hj => ?_⟩
      have hjL : j < L.length := by rw [hs, List.length_append, List.length_map]; omega
      have e : L[j]'hjL = rowS (S[j]'hj) := by
        have : L[j]? = (S.map rowS ++ rest)[j]? := by rw [hs]
        rw [List.getElem?_append_left (by simpa using hj), List.getElem?_map, List.getElem?_eq_getElem hj, List.getElem?_eq_getElem hjL] at this
        simpa using this
      have r0 := rowOf_get0 L j hjL
      have r2 := (rowOf_get L j hjL).1
      rw [e] at r0 r2
      exact ⟨by rw [Lib.cell_of_heap hh]; exact HC.out _ _ r0, by rw [Lib.cell_of_heap hh]; exact HC.out _ _ r2⟩
    have HRS := Lib.hid hRS
    have HGood : Hid (∀ j (h : j < L.length), w1.cell? ⟨g, j * 4 + 3, none⟩ = some (.bool (L[j]'h).good)) := Lib.hid fun j h => by
      rw [Lib.cell_of_heap hh]; exact HC.out _ _ (rowOf_get L j h).2
    have HG1 : Hid (∀ j (h : j < L.length), j < m → (L[j]'h).good = true) := Lib.hid fun j h hjm => by
      have : L[j]? = (S.map rowS ++ rest)[j]? := by rw [hs]
      rw [List.getElem?_append_left (by rw [List.length_map, hm]; exact hjm), List.getElem?_map, List.getElem?_eq_getElem h, List.getElem?_eq_getElem (show j < S.length by rw [hm]; exact hjm)] at this
      have e : L[j]'h = rowS (S[j]'(by rw [hm]; exact hjm)) := by simpa using this
      rw [e]; rfl
    have HG2 : Hid (∀ (h : m < L.length), (L[m]'h).good = false) := Lib.hid fun h => by
      have : L[m]? = (S.map rowS ++ rest)[m]? := by rw [hs]
      rw [List.getElem?_append_right (by rw [List.length_map, hm]; exact Nat.le_refl _), List.length_map, hm, Nat.sub_self, List.getElem?_eq_getElem h] at this
      rcases hr with hr | ⟨x, t, hr, hx⟩
      · rw [hr] at this; cases this
      · rw [hr] at this
        have e : L[m]'h = x := by simpa using this
        rw [e]; exact hx
    have hkm2 : m ≤ k := by omega
    have hmc : (m : Int) ≤ (cap : Int) := by omega
    have hmc2 : m ≤ cap := by omega
    clear hv hc1 hc2 hc3 hc4 hkm hm hs hr hk hRS HC hh
    go_wp2
    go_loopw [4] (fun i W => ∃ j : Nat, i = .int .i64 j ∧ j ≤ m ∧ W = w1) (fun i _ => m - (intOf i).toNat)
    case atStart => exact ⟨0, rfl, by omega, rfl⟩
    case round =>
      obtain ⟨j, rfl, hj, rfl⟩ := hrel
      by_cases hlt : j < m
      · have hjk : j < k := by omega
        have hjL : j < L.length := by rw [HK.out]; exact hjk
        have c3 := HGood.out j hjL
        rw [HG1.out j hjL hlt] at c3
        clear hjL
        go_wp2
        exact ⟨⟨j + 1, by go_num, by omega, trivial⟩, by simp [intOf]; omega⟩
      · obtain rfl : j = m := by omega
        by_cases hjk : j < k
        · have hjL : j < L.length := by rw [HK.out]; exact hjk
          have c3 := HGood.out j hjL
          rw [HG2.out hjL] at c3
          clear hjL hlt
          go_wp2
          go_ret
          exact ⟨_, _, rfl, HRS.out, hb1⟩
        · obtain rfl : j = k := by omega
          clear hlt
          go_wp2
          go_ret
          exact ⟨_, _, rfl, HRS.out, hb1⟩
theorem refAll_any (s : ByteArray) (w : World) (hs : s.size ≤ 1048576) :
    Calls Try.prog 17 #[.string s] w fun e w' => ∃ A c, e = .returned (.slice A (stepsF s).length c) ∧ RS w' A (stepsF s) ∧ Below w.heap.size w w' := by
  obtain ⟨rest, h1, h2⟩ := rsteps_split s s.size 0
  exact all_from s (rsteps s.size s 0) (stepsF s) rest _ w (Nat.le_trans (rsteps_len _ _ _ (by omega)) (by omega)) rfl h1 h2 (refSteps_any s w hs)
end Go.Proofs.Ytolnnkalgioobaa
