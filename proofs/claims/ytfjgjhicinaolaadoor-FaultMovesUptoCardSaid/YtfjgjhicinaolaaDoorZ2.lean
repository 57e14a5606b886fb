/- An error whose Fault is written over. -/
import Derived.Test.YtfjgjhicinaolaaDoorW5
namespace Go.Proofs.YtfjgjhicinaolaaDoor
open Go.RowKit Go.Extern.Stop Go.Stop Go.Extern
set_option maxRecDepth 100000
set_option linter.unusedVariables false
set_option linter.unusedSimpArgs false
set_option linter.unnecessarySimpa false

theorem szL_pair {a : Nat → Addr} : ∀ (l l' : List ET), l.map (ET.val a) = l'.map (ET.val a) → (∀ x, x ∈ l → ∀ y, y ∈ l' → x.val a = y.val a → x.sz = y.sz) → ET.szL l = ET.szL l'
  | [], [], _, _ => rfl
  | [], y :: l', h, _ => by simp at h
  | x :: l, [], h, _ => by simp at h
  | x :: l, y :: l', h, hh => by
    simp only [List.map_cons, List.cons.injEq] at h
    simp only [ET.szL]
    rw [hh x (by simp) y (by simp) h.1, szL_pair l l' h.2 fun u hu v hv => hh u (by simp [hu]) v (by simp [hv])]
theorem row_same {w : World} {v : Value} {xs ys : List Value} (h : RowAt w v xs) (h' : RowAt w v ys) : xs = ys := by
  rcases h with ⟨rfl, rfl⟩ | ⟨g, c, rfl, h2, h3, h4⟩
  · rcases h' with ⟨_, rfl⟩ | ⟨g, c, e, _⟩
    · rfl
    · cases e
  · rcases h' with ⟨e, _⟩ | ⟨g', c', e, h2', h3', h4'⟩
    · cases e
    · injection e with e1 e2 e3
      simp only [Option.some.injEq, Addr.mk.injEq, and_true] at e1
      subst e1
      refine List.ext_getElem? fun i => ?_
      by_cases hi : i < xs.length
      · have hi' : i < ys.length := by omega
        have a1 := h4 i _ (List.getElem?_eq_getElem hi)
        have a2 := h4' i _ (List.getElem?_eq_getElem hi')
        rw [List.getElem?_eq_getElem hi, List.getElem?_eq_getElem hi']
        exact a1.symm.trans a2
      · rw [List.getElem?_eq_none (by omega), List.getElem?_eq_none (by omega)]
/-- Two that lie at one place are of one size. -/
theorem sz_same (a : Nat → Addr) (w : World) : ∀ (n : Nat) (T T' : ET), T.sz ≤ n → Holds a w T → Holds a w T' → T.val a = T'.val a → T.sz = T'.sz := by
  intro n
  induction n with
  | zero => intro T T' h; have := T.sz_pos; omega
  | succ n ih =>
    intro T T' hn h h' hv
    cases T with
    | nil => cases T' <;> simp [ET.val] at hv <;> rfl
    | sent k => cases T' <;> simp [ET.val] at hv <;> rfl
    | other ad => cases T' <;> simp [ET.val] at hv <;> rfl
    | nilF => cases T' <;> simp [ET.val] at hv <;> rfl
    | claim p c => cases T' <;> simp [ET.val] at hv <;> rfl
    | fault p k s e =>
      cases T' with
      | fault p' k' s' e' =>
        simp [ET.val] at hv
        subst hv
        simp only [Holds] at h h'
        simp only [ET.sz] at hn ⊢
        rw [ih e e' (by omega) h.2.2.2 h'.2.2.2 (Option.some.inj (h.1.symm.trans h'.1))]
      | _ => simp [ET.val] at hv
    | one p e =>
      cases T' with
      | one p' e' =>
        simp [ET.val] at hv
        subst hv
        simp only [Holds] at h h'
        simp only [ET.sz] at hn ⊢
        rw [ih e e' (by omega) h.2 h'.2 (Option.some.inj (h.1.symm.trans h'.1))]
      | _ => simp [ET.val] at hv
    | many p l =>
      cases T' with
      | many p' l' =>
        simp [ET.val] at hv
        subst hv
        simp only [Holds] at h h'
        simp only [ET.sz] at hn ⊢
        obtain ⟨⟨v, h1, h2⟩, h3⟩ := h
        obtain ⟨⟨v', h1', h2'⟩, h3'⟩ := h'
        obtain rfl : v = v' := Option.some.inj (h1.symm.trans h1')
        rw [szL_pair l l' (row_same h2 h2') fun x hx y hy hxy => ih x y (by have := ET.szL_mem hx; omega) (h3.mem hx) (h3'.mem hy) hxy]
      | _ => simp [ET.val] at hv
theorem as_sz (F : ET) : ∀ (n : Nat) (T : ET), T.sz ≤ n → T.as = some F → F.sz ≤ T.sz := by
  intro n
  induction n with
  | zero => intro T h; have := T.sz_pos; omega
  | succ n ih =>
    intro T hn h
    cases T with
    | fault p k s e => simp only [ET.as, Option.some.injEq] at h; subst h; exact Nat.le_refl _
    | nilF => simp only [ET.as, Option.some.injEq] at h; subst h; exact Nat.le_refl _
    | one p e => simp only [ET.as, ET.sz] at h hn ⊢; have := ih e (by omega) h; omega
    | many p l =>
      simp only [ET.as, ET.sz] at h hn ⊢
      have : ∀ l : List ET, ET.szL l ≤ n → ET.asL l = some F → F.sz ≤ ET.szL l := by
        intro l
        induction l with
        | nil => intro _ h; simp [ET.asL] at h
        | cons e l ihl =>
          intro hs hf
          simp only [ET.szL, ET.asL] at hs hf ⊢
          cases he : e.as with
          | some x => rw [he] at hf; simp only [Option.some.injEq] at hf; subst hf; have := ih e (by omega) he; omega
          | none => rw [he] at hf; have := ihl (by omega) hf; omega
      have := this l (by omega) h
      omega
    | _ => simp [ET.as] at h

/-- What is asked of the one that takes another's place. -/
def Turned (a : Nat → Addr) (W' : World) (F F' T T' : ET) : Prop := Holds a W' T' ∧ T'.val a = T.val a ∧ (T.as = none → T'.as = none) ∧ (T.as = some F → T'.as = some F')
theorem turned_list {a : Nat → Addr} {W' : World} {F F' : ET} : ∀ (l : List ET), (∀ x, x ∈ l → ∃ y, Turned a W' F F' x y) →
    ∃ l', HoldsL a W' l' ∧ l'.map (ET.val a) = l.map (ET.val a) ∧ (ET.asL l = none → ET.asL l' = none) ∧ (ET.asL l = some F → ET.asL l' = some F')
  | [], _ => ⟨[], trivial, rfl, fun _ => rfl, fun h => by simp [ET.asL] at h⟩
  | x :: l, h => by
    obtain ⟨y, y1, y2, y3, y4⟩ := h x (by simp)
    obtain ⟨l', l1, l2, l3, l4⟩ := turned_list l fun z hz => h z (by simp [hz])
    refine ⟨y :: l', ⟨y1, l1⟩, by simp [y2, l2], fun e => ?_, fun e => ?_⟩
    · simp only [ET.asL] at e ⊢
      cases hx : x.as with
      | some z => rw [hx] at e; cases e
      | none => rw [hx] at e; rw [y3 hx]; exact l3 e
    · simp only [ET.asL] at e ⊢
      cases hx : x.as with
      | some z => rw [hx] at e; simp only [Option.some.injEq] at e; subst e; rw [y4 hx]
      | none => rw [hx] at e; rw [y3 hx]; exact l4 e
theorem val_case (a : Nat → Addr) (T : ET) : T.val a = .nilIface ∨ ∃ t v, T.val a = .iface t v := by cases T <;> first | exact .inl rfl | exact .inr ⟨_, _, rfl⟩
/-- The Fault at block p is written over. -/
theorem spoil (a : Nat → Addr) (W W' : World) (p : Nat) (n n' : Int) (s s' : ByteArray) (e : ET) (hF : Holds a W (.fault p n s e)) (hb : ∀ b, b ≠ p → W'.heap[b]? = W.heap[b]?) (hp : ∃ cs t, W'.heap[p]? = some (.cells cs t (0, 0)))
    (h0 : W'.cell? ⟨p, 0, none⟩ = some (.iface 94 (.pointer (some (a 10))))) (h1 : W'.cell? ⟨p, 1, none⟩ = some (.int .i64 n')) (h2 : W'.cell? ⟨p, 2, none⟩ = some (.string s')) :
    ∀ (m : Nat) (T : ET), T.sz ≤ m → Holds a W T → ∃ T', Turned a W' (.fault p n s e) (.fault p n' s' (.sent 10)) T T' := by
  have hF' := hF
  simp only [Holds] at hF
  obtain ⟨f0, f1, f2, f3⟩ := hF
  have hself : ∀ x : ET, Holds a W x → x.val a = e.val a → x.as ≠ some (.fault p n s e) := fun x hx hv h => by
    have := as_sz _ _ x (Nat.le_refl _) h
    have h3 := sz_same a W _ x e (Nat.le_refl _) hx f3 hv
    simp only [ET.sz] at this
    omega
  have hsent : Holds a W' (.sent 10) := ⟨by omega, by omega⟩
  have hother : ∀ q : Addr, q.block ≠ p → ∀ v, W.cell? q = some v → W'.cell? q = some v := fun q hq v hv => cell_agree (hb _ hq) hv
  intro m
  induction m with
  | zero => intro T h; have := T.sz_pos; omega
  | succ m ih =>
    intro T hT h
    cases T with
    | nil => exact ⟨.nil, trivial, rfl, fun _ => rfl, fun h => by simp [ET.as] at h⟩
    | sent k => exact ⟨.sent k, h, rfl, fun _ => rfl, fun h => by simp [ET.as] at h⟩
    | nilF => exact ⟨.nilF, trivial, rfl, fun h => by simp [ET.as] at h, fun h => by simp [ET.as] at h⟩
    | other ad =>
      refine ⟨.other ad, ?_, rfl, fun _ => rfl, fun h => by simp [ET.as] at h⟩
      simp only [Holds] at h ⊢
      refine ⟨?_, h.2⟩
      by_cases hq : ad.block = p
      · rw [hq]; exact hp
      · obtain ⟨c, t, hc⟩ := h.1
        exact ⟨c, t, (hb _ hq).trans hc⟩
    | claim q c =>
      refine ⟨.claim q c, ?_, rfl, fun _ => rfl, fun h => by simp [ET.as] at h⟩
      simp only [Holds] at h ⊢
      refine hother _ (fun hq => ?_) _ h
      have hq : q = p := hq
      subst hq
      rw [f0] at h
      rcases val_case a e with h9 | ⟨t, v, h9⟩ <;> rw [h9] at h <;> cases h
    | fault q k r e1 =>
      simp only [Holds] at h
      simp only [ET.sz] at hT
      by_cases hq : q = p
      · subst hq
        refine ⟨.fault q n' s' (.sent 10), ⟨h0, h1, h2, hsent⟩, rfl, fun h => by simp [ET.as] at h, fun _ => rfl⟩
      · obtain ⟨e1', g1, g2, g3, g4⟩ := ih e1 (by omega) h.2.2.2
        refine ⟨.fault q k r e1', ⟨?_, hother _ hq _ h.2.1, hother _ hq _ h.2.2.1, g1⟩, rfl, fun h => by simp [ET.as] at h, fun h => ?_⟩
        · rw [g2]; exact hother _ hq _ h.1
        · simp only [ET.as, Option.some.injEq, ET.fault.injEq] at h
          exact absurd h.1 hq
    | one q e1 =>
      simp only [Holds] at h
      simp only [ET.sz] at hT
      by_cases hq : q = p
      · subst hq
        refine ⟨.one q (.sent 10), ⟨h0, hsent⟩, rfl, fun _ => rfl, fun h9 => ?_⟩
        exact absurd h9 (hself e1 h.2 (Option.some.inj (h.1.symm.trans f0)))
      · obtain ⟨e1', g1, g2, g3, g4⟩ := ih e1 (by omega) h.2
        refine ⟨.one q e1', ⟨?_, g1⟩, rfl, g3, g4⟩
        rw [g2]; exact hother _ hq _ h.1
    | many q l =>
      simp only [Holds] at h
      simp only [ET.sz] at hT
      obtain ⟨⟨v, c0, hr⟩, hl⟩ := h
      have hq : q ≠ p := by
        rintro rfl
        rw [f0] at c0
        rcases hr with ⟨rfl, _⟩ | ⟨g, c, rfl, _⟩ <;> rcases val_case a e with h9 | ⟨t, v, h9⟩ <;> rw [h9] at c0 <;> cases c0
      rcases hr with ⟨rfl, hnil⟩ | ⟨g, c, rfl, r1, r2, r3⟩
      · have hl0 : l = [] := by simpa using hnil
        subst hl0
        exact ⟨.many q [], ⟨⟨_, hother _ hq _ c0, .inl ⟨rfl, rfl⟩⟩, trivial⟩, rfl, fun _ => rfl, fun h => by simp [ET.as, ET.asL] at h⟩
      · by_cases hg : g = p
        · subst hg
          match l, r1, r3, hl, c0 with
          | [], r1, r3, hl, c0 => exact ⟨.many q [], ⟨⟨_, hother _ hq _ c0, .inr ⟨g, c, rfl, r1, r2, fun i x hx => by simp at hx⟩⟩, trivial⟩, rfl, fun _ => rfl, fun h => by simp [ET.as, ET.asL] at h⟩
          | [x], r1, r3, hl, c0 =>
            have hx0 := r3 0 _ rfl
            refine ⟨.many q [.sent 10], ⟨⟨_, hother _ hq _ c0, .inr ⟨g, c, rfl, r1, r2, fun i y hy => ?_⟩⟩, hsent, trivial⟩, rfl, fun _ => rfl, fun h => ?_⟩
            · match i, hy with
              | 0, hy => simp at hy; subst hy; exact h0
              | i + 1, hy => simp at hy
            · have : x.as = some (.fault g n s e) := by
                simp only [ET.as, ET.asL] at h
                cases hx : x.as with
                | some z => rw [hx] at h; simpa using h
                | none => rw [hx] at h; cases h
              exact absurd this (hself x hl.1 (Option.some.inj (hx0.symm.trans f0)))
          | x :: y :: l, r1, r3, hl, c0 =>
            have hx1 := r3 1 _ rfl
            rw [f1] at hx1
            rcases val_case a y with h9 | ⟨t, v, h9⟩ <;> rw [h9] at hx1 <;> cases hx1
        · obtain ⟨l', l1, l2, l3, l4⟩ := turned_list (F := .fault p n s e) (F' := .fault p n' s' (.sent 10)) (W' := W') l fun x hx => ih x (by have := ET.szL_mem hx; omega) (hl.mem hx)
          refine ⟨.many q l', ⟨⟨_, hother _ hq _ c0, ?_⟩, l1⟩, rfl, l3, l4⟩
          rw [l2]
          exact .inr ⟨g, c, rfl, r1, r2, fun i x hx => hother _ hg _ (r3 i x hx)⟩
theorem Foot.plain {a : Nat → Addr} {base : Nat} {no : Nat → Prop} {w : World} {T : ET} (h : Foot a base no w T) : PlainAs w T := (h w fun _ _ _ _ => rfl).2
/-- The Fault that errors.As finds lies at the base or above. -/
theorem foot_base {a : Nat → Addr} {base p : Nat} {n : Int} {s : ByteArray} {e T : ET} {W : World} (h : Foot a base (fun _ => False) W T) (hT : T.as = some (.fault p n s e)) : base ≤ p := by
  rcases Nat.lt_or_ge p base with hlt | hge
  · exfalso
    have hW : Holds a { W with heap := W.heap.setIfInBounds p (.cells #[] 0) } T := (h _ fun b h1 _ _ => by
      show (W.heap.setIfInBounds p (.cells #[] 0))[b]? = _
      rw [Array.getElem?_setIfInBounds_ne (by omega)]).1
    have h2 := (as_holds hW hT).1
    simp only [Holds] at h2
    have h3 := h2.1
    have hpl : p < W.heap.size := by
      have := World.block_lt_of_cell? _ _ h3
      simpa using this
    rw [cell_new (g := p) (cs := #[]) (t := 0) (by show (W.heap.setIfInBounds p (.cells #[] 0))[p]? = _; simp [hpl])] at h3
    simp at h3
  · exact hge
end Go.Proofs.YtfjgjhicinaolaaDoor
