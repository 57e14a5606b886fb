/- The document's Nodes in memory; Is, code. -/
import Derived.Test.YtfjgjhicinaolaaDoorJ
namespace Go.Proofs.YtfjgjhicinaolaaDoor
open Go.RowKit Go.Extern.Stop Go.Stop Go.Extern
set_option maxRecDepth 100000
set_option linter.unusedVariables false
set_option linter.unusedSimpArgs false
set_option linter.unnecessarySimpa false

/-- A Node, with where its kids lie. -/
inductive ND where
  | mk (k c n : Int) (s : ByteArray) (A : Option Addr) (cap : Nat) (l : List ND)
def ND.k : ND → Int | .mk k _ _ _ _ _ _ => k
def ND.c : ND → Int | .mk _ c _ _ _ _ _ => c
def ND.n : ND → Int | .mk _ _ n _ _ _ _ => n
def ND.s : ND → ByteArray | .mk _ _ _ s _ _ _ => s
def ND.A : ND → Option Addr | .mk _ _ _ _ A _ _ => A
def ND.cap : ND → Nat | .mk _ _ _ _ _ cap _ => cap
def ND.l : ND → List ND | .mk _ _ _ _ _ _ l => l
def ND.kids (N : ND) : Value := .slice N.A N.l.length N.cap
def ND.cells (N : ND) : List Value := [.int .i64 N.k, .int .i64 N.c, .int .i64 N.n, .string N.s, N.kids]
def ND.agg (N : ND) : Value := .agg #[.int .i64 N.k, .int .i64 N.c, .int .i64 N.n, .string N.s, N.kids]
mutual
def ND.sz : ND → Nat
  | .mk _ _ _ _ _ _ l => ND.szL l + 1
def ND.szL : List ND → Nat
  | [] => 0
  | N :: l => N.sz + ND.szL l
end
theorem ND.szL_mem {N : ND} : ∀ {l : List ND}, N ∈ l → N.sz ≤ ND.szL l
  | x :: l, h => by
    rcases List.mem_cons.1 h with rfl | h
    · simp [ND.szL]
    · have := ND.szL_mem h; simp [ND.szL]; omega
theorem ND.sz_l (N : ND) : N.sz = ND.szL N.l + 1 := by cases N; rfl
theorem ND.sz_pos (N : ND) : 1 ≤ N.sz := by rw [ND.sz_l]; omega
/-- Nodes one behind the other. -/
def NRow (w : World) (A : Option Addr) (l : List ND) : Prop :=
  l = [] ∨ ∃ b off, A = some ⟨b, off, none⟩ ∧ ∀ i (h : i < l.length) j u, (l[i]).cells[j]? = some u → w.cell? ⟨b, off + i * 5 + j, none⟩ = some u
mutual
def In (w : World) : ND → Prop
  | .mk _ _ _ _ A cap l => l.length ≤ cap ∧ cap ≤ 9223372036854775807 ∧ NRow w A l ∧ InL w l
def InL (w : World) : List ND → Prop
  | [] => True
  | N :: l => In w N ∧ InL w l
end
theorem InL.mem {w : World} {N : ND} : ∀ {l : List ND}, InL w l → N ∈ l → In w N
  | x :: l, h, hm => by
    simp only [InL] at h
    rcases List.mem_cons.1 hm with rfl | hm
    · exact h.1
    · exact InL.mem h.2 hm
theorem InL.of {w : World} : ∀ {l : List ND}, (∀ N, N ∈ l → In w N) → InL w l
  | [], _ => by simp [InL]
  | x :: l, h => by simp only [InL]; exact ⟨h x (by simp), InL.of fun N hN => h N (List.mem_cons_of_mem _ hN)⟩
theorem NRow.below {w w1 : World} {A : Option Addr} {l : List ND} (h : NRow w A l) (hb : Below w.heap.size w w1) : NRow w1 A l := by
  rcases h with h | ⟨b, off, e, h⟩
  · exact .inl h
  · exact .inr ⟨b, off, e, fun i hi j u hu => keep1 hb (h i hi j u hu)⟩
theorem In.parts {w : World} {N : ND} (h : In w N) : N.l.length ≤ N.cap ∧ N.cap ≤ 9223372036854775807 ∧ NRow w N.A N.l ∧ InL w N.l := by cases N; exact h
theorem In.mk {w : World} {N : ND} (h : N.l.length ≤ N.cap ∧ N.cap ≤ 9223372036854775807 ∧ NRow w N.A N.l ∧ InL w N.l) : In w N := by cases N; exact h
theorem In.below_n {w w1 : World} (hb : Below w.heap.size w w1) : ∀ (n : Nat) (N : ND), N.sz ≤ n → In w N → In w1 N := by
  intro n
  induction n with
  | zero => intro N hN; have := N.sz_pos; omega
  | succ n ih =>
    intro N hN h
    obtain ⟨h1, h2, h3, h4⟩ := h.parts
    rw [ND.sz_l] at hN
    exact In.mk ⟨h1, h2, h3.below hb, InL.of fun x hx => ih x (by have := ND.szL_mem hx; omega) (h4.mem hx)⟩
theorem In.below {w w1 : World} {N : ND} (h : In w N) (hb : Below w.heap.size w w1) : In w1 N := In.below_n hb _ N (Nat.le_refl _) h
theorem InL.below {w w1 : World} {l : List ND} (h : InL w l) (hb : Below w.heap.size w w1) : InL w1 l := InL.of fun N hN => (h.mem hN).below hb
theorem In.kid {w : World} {N x : ND} (h : In w N) (hx : x ∈ N.l) : In w x := h.parts.2.2.2.mem hx

/-- Is it nil? -/
def ND.isN (N : ND) : Bool := decide (N.k < 1) || decide (7 < N.k) || (N.k == 1 && (decide (N.c < 1) || decide (11 < N.c)))
theorem is_walk (k c n : Int) (s : ByteArray) (v : Value) (w : World) :
    Calls Tryd.prog 29 #[.agg #[.int .i64 k, .int .i64 c, .int .i64 n, .string s, v]] w fun e w' => e = .returned (.bool (decide (k < 1) || decide (7 < k) || (k == 1 && (decide (c < 1) || decide (11 < c))))) ∧ Below w.heap.size w w' := by
  have hb : Below w.heap.size w (w.alloc (.cells #[.int .i64 k, .int .i64 c, .int .i64 n, .string s, v] 24)) := (Below.refl _ _).alloc (Nat.le_refl _) _
  by_cases h1 : k < 1
  · have e : (decide (k < 1) || decide (7 < k) || (k == 1 && (decide (c < 1) || decide (11 < c)))) = true := by simp [h1]
    rw [e]
    go_enter Tryd.func29, Tryd.ntmps29
    go_wp2
    go_ret
    exact ⟨rfl, hb⟩
  · by_cases h2 : 7 < k
    · have e : (decide (k < 1) || decide (7 < k) || (k == 1 && (decide (c < 1) || decide (11 < c)))) = true := by simp [h2]
      rw [e]
      go_enter Tryd.func29, Tryd.ntmps29
      go_wp2
      go_ret
      exact ⟨rfl, hb⟩
    · by_cases h3 : k = 1
      · subst h3
        have e : (decide ((1 : Int) < 1) || decide ((7 : Int) < 1) || ((1 : Int) == 1 && (decide (c < 1) || decide (11 < c)))) = (decide (c < 1) || decide (11 < c)) := by simp
        rw [e]
        by_cases h4 : c < 1
        · have e : (decide (c < 1) || decide (11 < c)) = true := by simp [h4]
          rw [e]
          go_enter Tryd.func29, Tryd.ntmps29
          go_wp2
          go_ret
          exact ⟨rfl, hb⟩
        · have e : (decide (c < 1) || decide (11 < c)) = decide (11 < c) := by simp [h4]
          rw [e]
          go_enter Tryd.func29, Tryd.ntmps29
          go_wp2
          go_ret
          exact ⟨rfl, hb⟩
      · have e : (decide (k < 1) || decide (7 < k) || (k == 1 && (decide (c < 1) || decide (11 < c)))) = false := by simp [h1, h2, h3]
        have h5 : (k == 1) = false := by simpa using h3
        rw [e]
        go_enter Tryd.func29, Tryd.ntmps29
        go_wp2
        go_ret
        exact ⟨rfl, hb⟩
theorem isN_any (N : ND) (w : World) : Calls Tryd.prog 29 #[N.agg] w fun e w' => e = .returned (.bool N.isN) ∧ Below w.heap.size w w' := is_walk N.k N.c N.n N.s N.kids w
end Go.Proofs.YtfjgjhicinaolaaDoor
