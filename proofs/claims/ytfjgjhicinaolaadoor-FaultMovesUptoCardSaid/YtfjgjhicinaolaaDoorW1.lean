/- Errors that were built: where they lie, and what the document says of them. -/
import Derived.Test.YtfjgjhicinaolaaDoorT
namespace Go.Proofs.YtfjgjhicinaolaaDoor
open Go.RowKit Go.Extern.Stop Go.Stop Go.Extern
set_option maxRecDepth 100000
set_option linter.unusedVariables false
set_option linter.unusedSimpArgs false
set_option linter.unnecessarySimpa false

/-- W' has the same blocks as w, from base on, but for those of 'no'. -/
def Agree (base : Nat) (no : Nat → Prop) (w W' : World) : Prop := ∀ b, base ≤ b → b < w.heap.size → ¬ no b → W'.heap[b]? = w.heap[b]?
/-- The Fault that errors.As finds lies in a block of its own. -/
def PlainAs (w : World) (T : ET) : Prop := ∀ p n s e, T.as = some (.fault p n s e) → ∃ cs, w.heap[p]? = some (.cells cs 45 (0, 0))
theorem plain_no {w : World} {T : ET} (h : ∀ p n s e, T.as ≠ some (.fault p n s e)) : PlainAs w T := fun p n s e he => absurd he (h p n s e)
theorem asL_mem {F : ET} : ∀ {l : List ET}, ET.asL l = some F → ∃ x, x ∈ l ∧ x.as = some F
  | [], h => by simp [ET.asL] at h
  | x :: l, h => by
    simp only [ET.asL] at h
    cases hx : x.as with
    | some z => rw [hx] at h; simp only [Option.some.injEq] at h; subst h; exact ⟨x, by simp, hx⟩
    | none => rw [hx] at h; obtain ⟨y, h1, h2⟩ := asL_mem h; exact ⟨y, by simp [h1], h2⟩
/-- The error lies in blocks from base on, none of 'no'. -/
def Foot (a : Nat → Addr) (base : Nat) (no : Nat → Prop) (w : World) (T : ET) : Prop := ∀ W', Agree base no w W' → Holds a W' T ∧ PlainAs W' T
theorem Foot.holds {a : Nat → Addr} {base : Nat} {no : Nat → Prop} {w : World} {T : ET} (h : Foot a base no w T) : Holds a w T := (h w fun _ _ _ _ => rfl).1
theorem Foot.weaken {a : Nat → Addr} {base base' : Nat} {no no' : Nat → Prop} {w : World} {T : ET} (h : Foot a base no w T) (hb : base' ≤ base) (hn : ∀ b, base ≤ b → no' b → no b) : Foot a base' no' w T := fun W' hA => h W' fun b h1 h2 h3 => hA b (Nat.le_trans hb h1) h2 fun h4 => h3 (hn b h1 h4)
/-- To a later world that agrees. -/
theorem Foot.step {a : Nat → Addr} {base : Nat} {no : Nat → Prop} {w w1 : World} {T : ET} (h : Foot a base no w T) (hs : w.heap.size ≤ w1.heap.size) (hA : Agree base no w w1) : Foot a base no w1 T := fun W' hW => h W' fun b h1 h2 h3 => (hW b h1 (by omega) h3).trans (hA b h1 h2 h3)
theorem Foot.below {a : Nat → Addr} {base : Nat} {no : Nat → Prop} {w w1 : World} {T : ET} (h : Foot a base no w T) (hb : Below w.heap.size w w1) : Foot a base no w1 T := h.step hb.size fun b _ h2 _ => hb.block b h2
theorem cell_agree {W' w : World} {p : Addr} {v : Value} (h : W'.heap[p.block]? = w.heap[p.block]?) (hc : w.cell? p = some v) : W'.cell? p = some v := by
  unfold World.cell? at hc ⊢
  rw [h]; exact hc

mutual
/-- errors.Is at the j-th, by the document. -/
def ND.has : ND → Nat → Bool
  | .mk k c n s A cap l, j =>
    if (decide (k < 1) || decide (7 < k) || (k == 1 && (decide (c < 1) || decide (11 < c)))) = true then false
    else if k = 1 then decide ((j : Int) = c)
    else if k = 7 then decide ((j : Int) = c)
    else if k = 3 ∨ k = 4 then ND.hasH l j
    else if k = 5 then ND.hasL l j
    else false
def ND.hasH : List ND → Nat → Bool
  | [], _ => false
  | N :: _, j => N.has j
def ND.hasL : List ND → Nat → Bool
  | [], _ => false
  | N :: l, j => N.has j || ND.hasL l j
end
theorem ND.has_eq (N : ND) (j : Nat) : N.has j = (if N.isN = true then false else if N.k = 1 then decide ((j : Int) = N.c) else if N.k = 7 then decide ((j : Int) = N.c) else if N.k = 3 ∨ N.k = 4 then ND.hasH N.l j else if N.k = 5 then ND.hasL N.l j else false) := by cases N; rfl
theorem ND.code_eq (N : ND) : N.code = (if N.isN = true then -1 else if N.k = 1 then N.c else if N.k = 7 then (if 1 ≤ N.c ∧ N.c ≤ 11 then N.c else -1) else if N.k = 3 ∨ N.k = 4 then ND.codeH N.l else if N.k = 5 then ND.codeL (-1) N.l else -1) := by cases N; rfl

/-- c is the least of S's. -/
def IsLeast (S : Nat → Bool) (c : Int) : Prop := (c = -1 ∧ ∀ j : Nat, 1 ≤ j → j ≤ 11 → S j = false) ∨ ∃ m : Nat, c = m ∧ 1 ≤ m ∧ m ≤ 11 ∧ S m = true ∧ ∀ j : Nat, 1 ≤ j → j < m → S j = false
theorem least_unique {S : Nat → Bool} {c d : Int} (h : IsLeast S c) (k : IsLeast S d) : c = d := by
  rcases h with ⟨rfl, h⟩ | ⟨m, rfl, h1, h2, h3, h4⟩ <;> rcases k with ⟨rfl, k⟩ | ⟨n, rfl, k1, k2, k3, k4⟩
  · rfl
  · rw [h n k1 k2] at k3; cases k3
  · rw [k m h1 h2] at h3; cases h3
  · rcases Nat.lt_trichotomy m n with q | q | q
    · rw [k4 m h1 q] at h3; cases h3
    · rw [q]
    · rw [h4 n k1 q] at k3; cases k3
theorem codeF_least (S : Nat → Bool) : ∀ n k, 1 ≤ k → n + k = 12 → (∀ j : Nat, 1 ≤ j → j < k → S j = false) → IsLeast S (codeF S n k) := by
  intro n
  induction n with
  | zero => intro k hk he hS; exact .inl ⟨rfl, fun j h1 h2 => hS j h1 (by omega)⟩
  | succ n ih =>
    intro k hk he hS
    unfold codeF
    by_cases h : S k = true
    · rw [if_pos h]; exact .inr ⟨k, rfl, hk, by omega, h, hS⟩
    · rw [if_neg h]
      refine ih (k + 1) (by omega) (by omega) fun j h1 h2 => ?_
      by_cases e : j = k
      · subst e; simpa using h
      · exact hS j h1 (by omega)
theorem least_or {S U : Nat → Bool} {c d : Int} (h : IsLeast S c) (k : IsLeast U d) : IsLeast (fun j => S j || U j) (leastI c d) := by
  unfold leastI
  rcases h with ⟨rfl, h⟩ | ⟨m, rfl, h1, h2, h3, h4⟩ <;> rcases k with ⟨rfl, k⟩ | ⟨n, rfl, k1, k2, k3, k4⟩
  · rw [if_pos (.inl (by omega))]; exact .inl ⟨rfl, fun j a b => by simp [h j a b, k j a b]⟩
  · rw [if_pos (.inl (by omega))]; exact .inr ⟨n, rfl, k1, k2, by simp [k3], fun j a b => by simp [h j a (by omega), k4 j a b]⟩
  · rw [if_neg (by omega)]; exact .inr ⟨m, rfl, h1, h2, by simp [h3], fun j a b => by simp [h4 j a b, k j a (by omega)]⟩
  · by_cases e : n < m
    · rw [if_pos (.inr ⟨by omega, by omega⟩)]; exact .inr ⟨n, rfl, k1, k2, by simp [k3], fun j a b => by simp [h4 j a (by omega), k4 j a b]⟩
    · rw [if_neg (by omega)]; exact .inr ⟨m, rfl, h1, h2, by simp [h3], fun j a b => by simp [h4 j a b, k4 j a (by omega)]⟩
theorem least_code (n : Nat) : ∀ N : ND, N.sz ≤ n → IsLeast N.has N.code := by
  induction n with
  | zero => intro N hN; have := N.sz_pos; omega
  | succ n ih =>
    intro N hN
    rw [ND.sz_l] at hN
    have hnone : IsLeast (fun _ => false) (-1) := .inl ⟨rfl, fun _ _ _ => rfl⟩
    have e : N.has = fun j : Nat => (if N.isN = true then false else if N.k = 1 then decide ((j : Int) = N.c) else if N.k = 7 then decide ((j : Int) = N.c) else if N.k = 3 ∨ N.k = 4 then ND.hasH N.l j else if N.k = 5 then ND.hasL N.l j else false) := funext fun j => N.has_eq j
    rw [e, ND.code_eq]
    by_cases h0 : N.isN = true
    · simp only [h0, if_true]; exact hnone
    · simp only [if_neg h0]
      have hone : ∀ c : Int, 1 ≤ c → c ≤ 11 → IsLeast (fun j => decide ((j : Int) = c)) c := fun c h1 h2 => .inr ⟨c.toNat, by omega, by omega, by omega, by simp; omega, fun j a b => by simp; omega⟩
      by_cases h1 : N.k = 1
      · simp only [h1, if_true]
        have : N.isN = (decide (N.c < 1) || decide (11 < N.c)) := by unfold ND.isN; simp [h1]
        rw [this] at h0
        simp at h0
        exact hone _ (by omega) (by omega)
      · simp only [if_neg h1]
        by_cases h7 : N.k = 7
        · simp only [h7, if_true]
          by_cases hc : 1 ≤ N.c ∧ N.c ≤ 11
          · rw [if_pos hc]; exact hone _ hc.1 hc.2
          · rw [if_neg hc]; exact .inl ⟨rfl, fun j a b => by simp; omega⟩
        · simp only [if_neg h7]
          by_cases h34 : N.k = 3 ∨ N.k = 4
          · simp only [if_pos h34]
            cases hl : N.l with
            | nil => exact hnone
            | cons x l => exact ih x (by have := ND.szL_mem (show x ∈ N.l by rw [hl]; simp); omega)
          · simp only [if_neg h34]
            by_cases h5 : N.k = 5
            · simp only [if_pos h5]
              have key : ∀ (l : List ND) (S : Nat → Bool) (m : Int), (∀ x, x ∈ l → x.sz ≤ n) → IsLeast S m → IsLeast (fun j => S j || ND.hasL l j) (ND.codeL m l) := by
                intro l
                induction l with
                | nil => intro S m _ h; simpa [ND.hasL, ND.codeL] using h
                | cons x l ihl =>
                  intro S m hx h
                  have := ihl (fun j => S j || x.has j) (leastI m x.code) (fun y hy => hx y (List.mem_cons_of_mem _ hy)) (least_or h (ih x (hx x (by simp))))
                  simpa [ND.hasL, ND.codeL, Bool.or_assoc] using this
              have := key N.l (fun _ => false) (-1) (fun x hx => by have := ND.szL_mem hx; omega) hnone
              simpa using this
            · simp only [if_neg h5]; exact hnone
theorem code_has (N : ND) : N.code = codeF N.has 11 1 := least_unique (least_code _ N (Nat.le_refl _)) (codeF_least N.has 11 1 (by omega) rfl (fun j a b => by omega))
end Go.Proofs.YtfjgjhicinaolaaDoor
