/- Nodes as the printed texts have them; beyond told of any Node. -/
import Derived.Test.YtfjgjhicinaolaaDoorT
import Derived.Test.YtfjgjhicinaolaaDoorPFaultTellsx1
namespace Go.Proofs.YtfjgjhicinaolaaDoor
open Go.RowKit PFaultTells Go.Proofs.YtfjgjhicinaolaaDoorW.PrintWords Go.Proofs.YtfjgjhicinaolaaDoorW.PrintMore
set_option maxRecDepth 100000
set_option linter.unusedVariables false
set_option linter.unusedSimpArgs false
set_option linter.unnecessarySimpa false

mutual
def ND.toS : ND → S24
  | .mk k c n s _ _ l => ⟨k, c, n, s, ND.toSL l⟩
def ND.toSL : List ND → List S24
  | [] => []
  | N :: l => N.toS :: ND.toSL l
end
theorem toSL_map (l : List ND) : ND.toSL l = l.map ND.toS := by
  induction l with
  | nil => rfl
  | cons N l ih => simp [ND.toSL, ih]
theorem toS_eq (N : ND) : N.toS = ⟨N.k, N.c, N.n, N.s, N.l.map ND.toS⟩ := by cases N; simp [ND.toS, toSL_map, ND.k, ND.c, ND.n, ND.s, ND.l]
theorem row_C {w : World} {A : Option Addr} {l : List ND} (hl : l.length ≤ 9223372036854775807) (h : NRow w A l) (hK : ∀ x, x ∈ l → k24.K w x.toS x.cells) : k24.C w A (l.map ND.toS).length (l.map ND.toS) := by
  refine ⟨rfl, by simpa using hl, fun hpos => ?_⟩
  rcases h with rfl | ⟨b, off, rfl, h⟩
  · simp at hpos
  · refine ⟨_, rfl, fun j p hp => ?_⟩
    rw [List.getElem?_map, Option.map_eq_some_iff] at hp
    obtain ⟨x, hx, rfl⟩ := hp
    obtain ⟨hj, rfl⟩ := List.getElem?_eq_some_iff.1 hx
    refine ⟨(l[j]).cells, rfl, hK _ (List.getElem_mem hj), fun i u hu => ?_⟩
    have := h j hj i u hu
    have e : (⟨b, off, none⟩ : Addr).add (j * 5 + i) = ⟨b, off + j * 5 + i, none⟩ := by
      unfold Addr.add; split
      · rename_i h0; simp only [Nat.add_assoc, h0, Nat.add_zero]
      · simp only [Nat.add_assoc]
    show w.cell? ((⟨b, off, none⟩ : Addr).add (j * 5 + i)) = some u
    rw [e]; exact this
theorem In_K (w : World) : ∀ (n : Nat) (N : ND), N.sz ≤ n → In w N → k24.K w N.toS N.cells := by
  intro n
  induction n with
  | zero => intro N hN; have := N.sz_pos; omega
  | succ n ih =>
    intro N hN hI
    obtain ⟨h1, h2, h3, h4⟩ := hI.parts
    rw [ND.sz_l] at hN
    have hC : k24.C w N.A (N.l.map ND.toS).length (N.l.map ND.toS) := row_C (by omega) h3 fun x hx => ih x (by have := ND.szL_mem hx; omega) (h4.mem hx)
    have := k24_mk w N.toS (A4 := N.A) (c4 := N.cap) (by rw [toS_eq]; simpa using h1) (by rw [toS_eq]; exact hC)
    rw [toS_eq] at this ⊢
    simpa [ND.cells, ND.kids] using this

/-! ### beyond ends -/
theorem w64_id (x : Int) (h0 : -9223372036854775808 ≤ x) (h1 : x ≤ 9223372036854775807) : wrap64 x = x := by unfold wrap64; omega
theorem len_sz (l : List ND) : l.length ≤ ND.szL l := by
  induction l with
  | nil => simp [ND.szL]
  | cons N l ih => have := N.sz_pos; simp only [ND.szL, List.length_cons]; omega
theorem szL_append (a b : List ND) : ND.szL (a ++ b) = ND.szL a + ND.szL b := by
  induction a with
  | nil => simp [ND.szL]
  | cons N l ih => simp only [List.cons_append, ND.szL, ih]; omega
theorem szL_take (l : List ND) (i : Nat) (h : i < l.length) : ND.szL (l.take (i + 1)) = ND.szL (l.take i) + (l[i]).sz := by
  rw [List.take_succ_eq_append_getElem h, szL_append]; simp [ND.szL]
theorem szL_take_le (l : List ND) (i : Nat) : ND.szL (l.take i) ≤ ND.szL l := by
  have := szL_append (l.take i) (l.drop i)
  rw [List.take_append_drop] at this
  omega
theorem rd_map (l : List ND) (i : Nat) (h : i < l.length) : rd_T24 (l.map ND.toS) (i : Int) = (l[i]).toS := by
  unfold rd_T24
  simp [List.getD_eq_getElem?_getD, h]
theorem parts1 (left n : Int) (L : List ND) (hB : ND.szL L ≤ 1048576) (hl0 : 0 ≤ left) (hl1 : left ≤ 1000000) (hn0 : 0 ≤ n) (hn1 : n ≤ left)
    (ih : ∀ next : List ND, ND.szL next + L.length ≤ ND.szL L → ∃ k r, crucibleref13_Parts.l0 k left n (next.map ND.toS) = some r ∧ 0 ≤ r ∧ r ≤ left + 1) :
    ∀ (d i : Nat) (next : List ND), L.length - i ≤ d → i ≤ L.length → ND.szL next + i ≤ ND.szL (L.take i) → ∃ k r, crucibleref13_Parts.l1 k left n (L.map ND.toS) (next.map ND.toS) (i : Int) = some r ∧ 0 ≤ r ∧ r ≤ left + 1 := by
  intro d
  induction d with
  | zero =>
    intro i next h1 h2 h3
    have e : i = L.length := by omega
    subst e
    rw [List.take_length] at h3
    obtain ⟨k, r, hk, hr⟩ := ih next h3
    refine ⟨k + 1, r, ?_, hr⟩
    simp only [crucibleref13_Parts.l1]
    rw [if_neg (by simp)]
    exact hk
  | succ d ihd =>
    intro i next h1 h2 h3
    by_cases hi : i < L.length
    · have hsz := szL_take L i hi
      have hle := szL_take_le L (i + 1)
      have hs := ND.sz_l (L[i])
      have hln := len_sz next
      have hlk := len_sz (L[i]).l
      have e1 : ((rd_T24 (L.map ND.toS) (i : Int)).f4) = (L[i]).l.map ND.toS := by rw [rd_map L i hi, toS_eq]
      have hLl := len_sz L
      by_cases hbig : n + (next.length : Int) + ((L[i]).l.length : Int) > left
      · refine ⟨1, left + 1, ?_, by omega, by omega⟩
        simp only [crucibleref13_Parts.l1]
        rw [if_pos (by simp; omega), if_pos (by omega), e1, List.length_map, List.length_map, w64_id (n + _) (by omega) (by omega), w64_id _ (by omega) (by omega), if_pos hbig, w64_id _ (by omega) (by omega)]
      · obtain ⟨k, r, hk, hr⟩ := ihd (i + 1) (next ++ (L[i]).l) (by omega) (by omega) (by rw [szL_append]; omega)
        refine ⟨k + 1, r, ?_, hr⟩
        simp only [crucibleref13_Parts.l1]
        rw [if_pos (by simp; omega), if_pos (by omega), e1, List.length_map, List.length_map, w64_id (n + _) (by omega) (by omega), w64_id _ (by omega) (by omega), if_neg hbig, if_pos (by omega), w64_id _ (by omega) (by omega), ← List.map_append]
        exact hk
    · exact (ihd i next (by omega) h2 h3)
theorem parts_ends (left : Int) (hl0 : 0 ≤ left) (hl1 : left ≤ 1000000) : ∀ (B : Nat) (L : List ND) (n : Int), ND.szL L ≤ B → B ≤ 1048576 → 0 ≤ n → n ≤ left → ∃ k r, crucibleref13_Parts.l0 k left n (L.map ND.toS) = some r ∧ 0 ≤ r ∧ r ≤ left + 1 := by
  intro B
  induction B with
  | zero =>
    intro L n hL _ h0 h1
    have : L = [] := by
      cases L with
      | nil => rfl
      | cons x l => have := x.sz_pos; simp only [ND.szL] at hL; omega
    subst this
    exact ⟨1, n, by simp [crucibleref13_Parts.l0], h0, by omega⟩
  | succ B ih =>
    intro L n hL hB h0 h1
    cases hLe : L with
    | nil => exact ⟨1, n, by simp [crucibleref13_Parts.l0], h0, by omega⟩
    | cons x l =>
      rw [← hLe]
      have hpos : 0 < L.length := by rw [hLe]; simp
      have hln := len_sz L
      by_cases hbig : n + (L.length : Int) > left
      · refine ⟨1, left + 1, ?_, by omega, by omega⟩
        simp only [crucibleref13_Parts.l0]
        rw [if_pos (by simp; omega), List.length_map, w64_id _ (by omega) (by omega), if_pos hbig, w64_id _ (by omega) (by omega)]
      · obtain ⟨k, r, hk, hr⟩ := parts1 left (n + L.length) L (by omega) hl0 hl1 (by omega) (by omega) (fun next hn => ih next _ (by omega) (by omega) (by omega) (by omega)) L.length 0 [] (by omega) (by omega) (by simp [ND.szL])
        refine ⟨k + 1, r, ?_, hr⟩
        simp only [crucibleref13_Parts.l0]
        rw [if_pos (by simp; omega), List.length_map, w64_id _ (by omega) (by omega), if_neg hbig]
        exact hk
theorem partsF_ends (N : ND) (hN : N.sz ≤ 1048576) : ∃ k r, crucibleref13_Parts.f k N.k N.c N.n N.s (N.l.map ND.toS) 10000 = some r ∧ 0 ≤ r ∧ r ≤ 10001 := by
  obtain ⟨k, r, hk, hr⟩ := parts_ends 10000 (by omega) (by omega) N.sz [N] 0 (by simp [ND.szL]) hN (by omega) (by omega)
  refine ⟨k, r, ?_, hr⟩
  unfold crucibleref13_Parts.f
  rw [List.map_singleton, toS_eq] at hk
  exact hk
theorem beyond_ends (L : List ND) (hB : ND.szL L ≤ 1048576) : ∀ (d i : Nat) (n : Int), L.length - i ≤ d → i ≤ L.length → 0 ≤ n → n ≤ 10000 → ∃ k b, cruciblelaw13_beyond.l0 k (L.map ND.toS) n (i : Int) = some b := by
  intro d
  induction d with
  | zero =>
    intro i n h1 h2 _ _
    have e : i = L.length := by omega
    subst e
    exact ⟨1, false, by simp [cruciblelaw13_beyond.l0]⟩
  | succ d ih =>
    intro i n h1 h2 h3 h4
    by_cases hi : i < L.length
    · have hmem := ND.szL_mem (List.getElem_mem hi)
      have hLl := len_sz L
      obtain ⟨k1, r, hk1, hr0, hr1⟩ := partsF_ends (L[i]) (by omega)
      have e0 : rd_T24 (L.map ND.toS) (i : Int) = (L[i]).toS := rd_map L i hi
      have e1 := toS_eq (L[i])
      by_cases hbig : n + r > 10000
      · refine ⟨k1 + 1, true, ?_⟩
        simp only [cruciblelaw13_beyond.l0]
        rw [if_pos (by simp; omega), if_pos (by omega), e0, e1, hk1, Option.bind_some, w64_id _ (by omega) (by omega), if_pos hbig]
      · obtain ⟨k2, b, hk2⟩ := ih (i + 1) (n + r) (by omega) (by omega) (by omega) (by omega)
        obtain ⟨k, hka, hkb⟩ := together (fun k => crucibleref13_Parts.mono _ _ _ _ _ _ k) (fun k => (cruciblelaw13_beyond.mono_l k) _ _ _) ⟨k1, hk1⟩ ⟨k2, hk2⟩
        refine ⟨k + 1, b, ?_⟩
        simp only [cruciblelaw13_beyond.l0]
        rw [if_pos (by simp; omega), if_pos (by omega), e0, e1, hka, Option.bind_some, w64_id _ (by omega) (by omega), if_neg hbig, w64_id _ (by omega) (by omega)]
        exact hkb
    · exact ih i n (by omega) h2 h3 h4
/-- beyond ends, whatever it says. -/
theorem beyond_any (A : Option Addr) (cap : Nat) (L : List ND) (w : World) (hl : L.length ≤ cap) (hc : cap ≤ 9223372036854775807) (hr : NRow w A L) (hI : InL w L) (hB : ND.szL L ≤ 1048576) :
    ∃ b, Calls Tryd.prog 9 #[.slice A L.length cap] w fun e w' => e = .returned (.bool b) ∧ Below w.heap.size w w' := by
  obtain ⟨k, b, hk⟩ := beyond_ends L hB L.length 0 0 (by omega) (by omega) (by omega) (by omega)
  refine ⟨b, ?_⟩
  have hC : k24.C w A (L.map ND.toS).length (L.map ND.toS) := row_C (by omega) hr fun x hx => In_K w _ x (Nat.le_refl _) (hI.mem hx)
  have := cruciblelaw13_beyond.calls k A cap (L.map ND.toS) b w hC (by simpa using hl) hk
  rwa [List.length_map] at this
end Go.Proofs.YtfjgjhicinaolaaDoor
