/- The Book: all lists grow: the plain part. -/
import Derived.Test.YtolnnkalgioobaaGreatDoorBuc
namespace Go.Proofs.YtolnnkalgioobaaGreatDoor
open Go.RowKit
set_option maxRecDepth 100000
set_option linter.unusedVariables false
set_option linter.unusedSimpArgs false
set_option linter.unnecessarySimpa false

/-- Where an append onto a row of the call's own lies: in the row itself, or in a new block: then nothing is touched. -/
def Tight (W W1 : World) (v : Value) (n g cap : Nat) : Prop := (v = .slice (some ⟨g, 0, none⟩) n cap ∧ W.grownBy W1 (some g)) ∨ (g = W.heap.size ∧ W.grownBy W1 none)
section
variable {P : Program} {ops : Array Oper} {rest : List Oper} {o : Oper} {a : Act} {Q : Exit → Act → World → Prop}
theorem run_tight (w : World) (t ty : TypeId) (B : Nat) (e : TypeId) (i : TypeInfo) (z : Value) (size bytes : Nat) (ht : P.underlying t = some (.slice e)) (hi : P.info? e = some i) (hz : i.zero = some z)
    (hsize : i.size = size) (hby : i.bytes = bytes) (hzs : z.cells.size = size) (hsz : 0 < size) (v : Value) (n : Nat) (xs : List Value) (hown : w.ownsRow B e size v n xs)
    (ad : Addr) (c : Nat) (news : List Value) (hl : news.length = size) (hnews : ∀ j u, news[j]? = some u → w.cell? (ad.add j) = some u) (h1 : ∀ u ∈ news, u.oneCell' = true)
    (h63 : n + 1 ≤ 1000000000000) (hb : bytes ≤ 100) (hbase : B ≤ w.heap.size) :
    ∃ g cap w', (Builtin.append_ #[t, t] ty #[v, .slice (some ad) 1 c]).run P w = .ok (.slice (some ⟨g, 0, none⟩) (n + 1) cap) w' ∧
      w'.ownsRow B e size (.slice (some ⟨g, 0, none⟩) (n + 1) cap) (n + 1) (xs ++ news) ∧ Tight w w' v n g cap := by
  have hbytes : (n + 1) * bytes ≤ 140737488355328 := Nat.le_trans (Nat.mul_le_mul h63 hb) (by decide)
  obtain ⟨g, cap, w', hr, ho, hg, hat, hlt⟩ := run_append_lies (P := P) w t ty B e i z size bytes ht hi hz hsize hby hzs hsz v n xs hown ad 1 c news (by omega) hnews h1 (by decide) (by simp only [maxLen]; omega) hbytes hbase _ rfl
  refine ⟨g, cap, w', hr, ho, ?_⟩
  rcases hown.2 with ⟨rfl, rfl⟩ | ⟨g0, cap0, cur, rfl, hbg, hgg, hnc, hcm, hcs, htake⟩
  · right
    have h2 := run_append_nil (P := P) w t ty e i z ht hi hz ad 1 c news (by omega) hnews (by decide) (by decide) (by rw [hby]; omega)
    rw [hr] at h2
    simp only [Result.ok.injEq, Value.slice.injEq, Option.some.injEq, Addr.mk.injEq, and_true] at h2
    obtain ⟨⟨rfl, _⟩, rfl⟩ := h2
    exact ⟨rfl, ⟨rfl, rfl, rfl, by simp, fun k hk _ => Below.heap_alloc w.drew _ k hk⟩⟩
  · by_cases hroom : n + 1 ≤ cap0
    · left
      have hfit : n * i.size + news.length ≤ cur.size := by rw [hl, hcs, hsize, ← Nat.succ_mul]; exact Nat.mul_le_mul_right _ hroom
      have h2 := run_append_room (P := P) w t ty e i ht hi g0 n cap0 cur hgg ad 1 c news (by omega) hnews h1 hroom hfit
      rw [hr] at h2
      simp only [Result.ok.injEq, Value.slice.injEq, Option.some.injEq, Addr.mk.injEq, and_true] at h2
      obtain ⟨⟨rfl, _, rfl⟩, _⟩ := h2
      exact ⟨rfl, hg⟩
    · right
      have h2 := run_append_grow (P := P) w t ty e i z ht hi hz ⟨g0, 0, none⟩ n cap0 xs (by rw [hown.1, hsize]) (hown.cells (g := g0) rfl) ad 1 c news (by omega) hnews (by omega) (by omega) (by rw [hby]; exact growslice_fits (by omega) hbytes)
      rw [hr] at h2
      simp only [Result.ok.injEq, Value.slice.injEq, Option.some.injEq, Addr.mk.injEq, and_true] at h2
      obtain ⟨⟨rfl, _⟩, rfl⟩ := h2
      exact ⟨rfl, ⟨rfl, rfl, rfl, by simp, fun k hk _ => Below.heap_alloc w.drew _ k hk⟩⟩
theorem wpList_tight (w : World) (hgd : o.guard = none) (s x : Operand) (t : TypeId) (ho : o.op = .call { callee := .builtin .append, args := #[s, x], argTypes := #[t, t] })
    (B : Nat) (e : TypeId) (i : TypeInfo) (z : Value) (size bytes : Nat) (ht : P.underlying t = some (.slice e)) (hi : P.info? e = some i) (hz : i.zero = some z)
    (hsize : i.size = size) (hby : i.bytes = bytes) (hzs : z.cells.size = size) (hsz : 0 < size) (v : Value) (n : Nat) (xs : List Value) (hs : a.eval s = v) (hown : w.ownsRow B e size v n xs)
    (ad : Addr) (c : Nat) (news : List Value) (hx : a.eval x = .slice (some ad) 1 c) (hl : news.length = size) (hnews : ∀ j u, news[j]? = some u → w.cell? (ad.add j) = some u) (h1 : ∀ u ∈ news, u.oneCell' = true)
    (h63 : n + 1 ≤ 1000000000000) (hb : bytes ≤ 100) (hbase : B ≤ w.heap.size)
    (h : ∀ g cap w', w'.ownsRow B e size (.slice (some ⟨g, 0, none⟩) (n + 1) cap) (n + 1) (xs ++ news) → Tight w w' v n g cap → wpList P ops Q rest (a.put o.dst (.slice (some ⟨g, 0, none⟩) (n + 1) cap)) w') :
    wpList P ops Q (o :: rest) a w := by
  refine wpList_plain hgd fun K hK => ?_
  obtain ⟨g, cap, w', hr, h2, h3⟩ := run_tight (P := P) w t o.type B e i z size bytes ht hi hz hsize hby hzs hsz v n xs hown ad c news hl hnews h1 h63 hb hbase
  unfold Oper.wp execOp
  simp only [ho, resolve, invoke, builtin, Sem.run_bind, Sem.run_pure, Result.andThen_ok, List.map_toArray, List.map_cons, List.map_nil, hs, hx, hr]
  exact hK _ _ (h g cap w' h2 h3)
end

/-- A list that has grown: its longer one is full of marks, and it is itself. -/
def Grown (E : Ents) (w W : World) (j : Nat) (v : Value) : Prop :=
  ∃ g c, v = .slice (some ⟨g, 0, none⟩) (E.len j + 70) c ∧ RK W .u16 (some ⟨g, 0, none⟩) (List.replicate (E.len j + 70) (mkB (E.n j))) ∧ g < W.heap.size ∧ ((E.l j).ownBlock = some g ∨ w.heap.size ≤ g) ∧
    RK W .u16 (E.A j) (E.mks j)
structure GrowI (E : Ents) (q B : Nat) (w W : World) (m : Nat) (lg : Nat → Value) : Prop where
  k : Keeps (fun k => E.S k ∨ k = q) w W
  blk : ∃ cur, W.heap[q]? = some (.cells cur 118 (0, 0))
  row : E.Row W q lg
  old : ∀ j, j < E.N → m ≤ j → Own W B 52 .u16 (E.l j) (E.mks j) ∧ lg j = .slice none 0 0
  new : ∀ j, j < m → Grown E w W j (lg j)
/-- While list m grows: 'v' is it so far, 'H' the heap's size when it began. -/
structure GrowJ (E : Ents) (q B : Nat) (w W : World) (m i H : Nat) (v : Value) (lg : Nat → Value) : Prop where
  k : Keeps (fun k => E.S k ∨ k = q) w W
  blk : ∃ cur, W.heap[q]? = some (.cells cur 118 (0, 0))
  row : E.Row W q lg
  old : ∀ j, j < E.N → m ≤ j → Own W B 52 .u16 (E.l j) (E.mks j) ∧ lg j = .slice none 0 0
  new : ∀ j, j < m → Grown E w W j (lg j) ∧ ∀ g c n, lg j = .slice (some ⟨g, 0, none⟩) n c → g < H
  cur : Own W B 52 .u16 v (List.replicate (E.len m + i) (mkB (E.n m)))
  lie : ∀ g, v.ownBlock = some g → (E.l m).ownBlock = some g ∨ H ≤ g
  lo : w.heap.size ≤ H ∧ H ≤ W.heap.size
theorem Grown.step {E : Ents} {w W W1 : World} {j : Nat} {v : Value} (h : Grown E w W j v) (hl : ∀ g, (E.l j).ownBlock = some g ∨ v.ownBlock = some g → W1.heap[g]? = W.heap[g]?) (hs : W.heap.size ≤ W1.heap.size) : Grown E w W1 j v := by
  obtain ⟨g, c, rfl, h1, h2, h3, h4⟩ := h
  have e1 := hl g (.inr rfl)
  refine ⟨g, c, rfl, ?_, by omega, h3, ?_⟩
  · rcases h1 with h1 | ⟨b, off, e, h1⟩
    · exact .inl h1
    · obtain ⟨rfl, rfl⟩ : g = b ∧ 0 = off := by simpa using e
      exact .inr ⟨g, 0, rfl, fun i hi => (World.cell?_of_block (a := ⟨g, 0 + i, none⟩) e1).trans (h1 i hi)⟩
  · rcases h4 with h4 | ⟨b, off, e, h4⟩
    · exact .inl h4
    · have e2 := hl b (.inl (by simp [Ents.l, e, Value.ownBlock]))
      exact .inr ⟨b, off, e, fun i hi => (World.cell?_of_block (a := ⟨b, off + i, none⟩) e2).trans (h4 i hi)⟩
theorem own_on {W W1 : World} {B : Nat} {v : Value} {xs : List Int} (h : Own W B 52 .u16 v xs) (hb : ∀ g, v.ownBlock = some g → W1.heap[g]? = W.heap[g]?) : Own W1 B 52 .u16 v xs := by
  refine ⟨h.1, ?_⟩
  rcases h.2 with h2 | ⟨g, cap, cur, rfl, h1, hh, r⟩
  · exact .inl h2
  · exact .inr ⟨g, cap, cur, rfl, h1, (hb g (by simp [Value.ownBlock])).trans hh, r⟩
theorem GrowJ.step {E : Ents} {p q B : Nat} {w W W2 : World} {m k H : Nat} {v : Value} {lg : Nat → Value} (h : GrowJ E q B w W m k H v lg) (hA : E.Apart p q) (hlt : ∀ j g, j < E.N → (E.l j).ownBlock = some g → g < w.heap.size)
    (hq : q < w.heap.size) (hm : m < E.N) {g cap : Nat} (hown : W2.ownsRow B 52 1 (.slice (some ⟨g, 0, none⟩) (E.len m + k + 1) cap) (E.len m + k + 1) (numsK .u16 (List.replicate (E.len m + k) (mkB (E.n m))) ++ [.int .u16 (mkB (E.n m))]))
    (ht : Tight (W.alloc (.cells #[.int .u16 (mkB (E.n m))] 52)) W2 v (E.len m + k) g cap) : GrowJ E q B w W2 m (k + 1) H (.slice (some ⟨g, 0, none⟩) (E.len m + k + 1) cap) lg := by
  have hsz1 : (W.alloc (.cells #[.int .u16 (mkB (E.n m))] 52)).heap.size = W.heap.size + 1 := by simp
  have hal : ∀ i, i < W.heap.size → (W.alloc (.cells #[.int .u16 (mkB (E.n m))] 52)).heap[i]? = W.heap[i]? := fun i hi => Below.heap_alloc W _ i hi
  have hgr : (W.alloc (.cells #[.int .u16 (mkB (E.n m))] 52)).grownBy W2 v.ownBlock := by
    rcases ht with ⟨rfl, h2⟩ | ⟨_, h2⟩
    · exact h2
    · exact ⟨h2.os, h2.tape, h2.output, h2.size, fun i hi _ => h2.block i hi (by simp)⟩
  have hsz : W.heap.size ≤ W2.heap.size := by have := hgr.size; omega
  have hch : ∀ i, i < W.heap.size → v.ownBlock ≠ some i → W2.heap[i]? = W.heap[i]? := fun i hi hne => (hgr.block i (by omega) (Ne.symm hne)).trans (hal i hi)
  have hwW : w.heap.size ≤ W.heap.size := by have := h.lo; omega
  have hvq : v.ownBlock ≠ some q := fun e => by
    rcases h.lie q e with h1 | h1
    · exact hA.q ⟨m, hm, h1⟩
    · have := h.lo; omega
  have hoth : ∀ j, j < E.N → j ≠ m → ∀ i, (E.l j).ownBlock = some i → W2.heap[i]? = W.heap[i]? := fun j hj hjm i hi => hch i (by have := hlt j i hj hi; omega) fun e => by
    rcases h.lie i e with h1 | h1
    · exact hA.ne m j hm hj (Ne.symm hjm) i h1 hi
    · have := hlt j i hj hi; have := h.lo; omega
  refine ⟨?_, ?_, ?_, ?_, ?_, ?_, ?_, ⟨h.lo.1, Nat.le_trans h.lo.2 hsz⟩⟩
  · refine (h.k.alloc _).grown hgr fun i hi => ?_
    rcases h.lie i hi with h1 | h1
    · exact .inl (.inl ⟨m, hm, h1⟩)
    · have := h.lo; exact .inr (by omega)
  · obtain ⟨cur, hc⟩ := h.blk
    exact ⟨cur, (hch q (by omega) hvq).trans hc⟩
  · exact fun j hj => ⟨(World.cell?_of_block (a := ⟨q, _, none⟩) (hch q (by omega) hvq)).trans (h.row j hj).1, (World.cell?_of_block (a := ⟨q, _, none⟩) (hch q (by omega) hvq)).trans (h.row j hj).2.1, (World.cell?_of_block (a := ⟨q, _, none⟩) (hch q (by omega) hvq)).trans (h.row j hj).2.2⟩
  · intro j hj hjm
    obtain ⟨h1, h2⟩ := h.old j hj hjm
    refine ⟨?_, h2⟩
    by_cases e : j = m
    · subst e
      by_cases hv : ∃ i, v.ownBlock = some i ∧ (E.l j).ownBlock = some i
      · obtain ⟨i, hv1, hv2⟩ := hv
        rcases ht with ⟨rfl, h3⟩ | ⟨_, h3⟩
        · simp only [Value.ownBlock, Option.some.injEq] at hv1
          subst hv1
          have ho := h.cur
          rcases ho.2 with ⟨h4, _⟩ | ⟨g2, cap2, cur2, h4, h5, h6, h7, h8, h9, h10⟩
          · cases h4
          · simp only [Value.slice.injEq, Option.some.injEq, Addr.mk.injEq, and_true] at h4
            obtain ⟨rfl, _, rfl⟩ := h4
            rcases h1.2 with ⟨k4, _⟩ | ⟨g3, cap3, cur3, k4, k5, k6, k7, k8, k9, k10⟩
            · simp [k4, Value.ownBlock] at hv2
            · have k4' := k4
              rw [k4] at hv2
              simp only [Value.ownBlock, Option.some.injEq] at hv2
              subst hv2
              rw [h6] at k6
              simp only [Option.some.injEq, Obj.cells.injEq, and_true] at k6
              subst k6
              rcases hown.2 with ⟨m4, _⟩ | ⟨g4, cap4, cur4, m4, m5, m6, m7, m8, m9, m10⟩
              · cases m4
              · simp only [Value.slice.injEq, Option.some.injEq, Addr.mk.injEq, and_true, true_and] at m4
                obtain ⟨rfl, rfl⟩ := m4
                refine ⟨h1.1, .inr ⟨g3, cap3, cur4, k4, k5, m6, k7, k8, by omega, ?_⟩⟩
                have hl0 : (E.mks j).length = E.len j := by simp [Ents.mks]
                rw [hl0]
                have := congrArg (List.take (E.len j)) m10
                rw [List.take_take, Nat.min_eq_left (by omega)] at this
                simp only [Nat.mul_one] at this ⊢
                rw [this]
                simp [Ents.mks, numsK, List.take_append, List.take_replicate]
        · exact own_on h1 fun i hi => (h3.block i (by have := hlt j i hj hi; omega) (by simp)).trans (hal i (by have := hlt j i hj hi; omega))
      · exact own_on h1 fun i hi => hch i (by have := hlt j i hj hi; omega) fun e => hv ⟨i, e, hi⟩
    · exact own_on h1 fun i hi => hoth j hj e i hi
  · intro j hj
    obtain ⟨h1, h2⟩ := h.new j hj
    refine ⟨h1.step (fun i hi => ?_) hsz, h2⟩
    rcases hi with hi | hi
    · exact hoth j (by omega) (by omega) i hi
    · obtain ⟨g1, c1, e1, _, h3, h4, _⟩ := h1
      rw [e1] at hi
      simp only [Value.ownBlock, Option.some.injEq] at hi
      subst hi
      refine hch g1 h3 fun e => ?_
      rcases h.lie g1 e with h5 | h5
      · rcases h4 with h4 | h4
        · exact hA.ne m j hm (by omega) (by omega) g1 h5 h4
        · have := hlt m g1 hm h5; omega
      · have := h2 g1 c1 _ e1; omega
  · unfold Own
    have e : List.replicate (E.len m + (k + 1)) (mkB (E.n m)) = List.replicate (E.len m + k) (mkB (E.n m)) ++ [mkB (E.n m)] := by rw [← Nat.add_assoc, List.replicate_succ']
    rw [e, List.length_append, List.length_replicate, numsK_append]
    exact hown
  · intro i hi
    simp only [Value.ownBlock, Option.some.injEq] at hi
    subst hi
    rcases ht with ⟨rfl, _⟩ | ⟨e, _⟩
    · exact h.lie g rfl
    · right; have := h.lo; omega
theorem GrowI.start {E : Ents} {q B : Nat} {w W : World} {m : Nat} {lg : Nat → Value} (h : GrowI E q B w W m lg) (hm : m < E.N) (hq : q < w.heap.size) (hlt : ∀ j g, j < E.N → (E.l j).ownBlock = some g → g < w.heap.size) (o : Obj) : GrowJ E q B w (W.alloc o) m 0 (W.heap.size + 1) (E.l m) lg := by
  have hs : (W.alloc o).heap.size = W.heap.size + 1 := by simp
  have hb : ∀ i, i < W.heap.size → (W.alloc o).heap[i]? = W.heap[i]? := fun i hi => Below.heap_alloc W o i hi
  have hkb : Below W.heap.size W (W.alloc o) := (Below.refl _ _).alloc (Nat.le_refl _) o
  have hq2 : q < W.heap.size := Nat.lt_of_lt_of_le hq h.k.size
  refine ⟨h.k.alloc o, ?_, fun j hj => ⟨?_, ?_, ?_⟩, fun j hj hjm => ⟨(h.old j hj hjm).1.kept hkb, (h.old j hj hjm).2⟩, fun j hj => ⟨(h.new j hj).step (fun i hi => hb i ?_) (by omega), ?_⟩, ?_, fun g hg => .inl hg, ⟨by have := h.k.size; omega, by omega⟩⟩
  · obtain ⟨cur, hc⟩ := h.blk
    exact ⟨cur, (hb q hq2).trans hc⟩
  · exact (World.cell?_of_block (a := ⟨q, _, none⟩) (hb q hq2)).trans (h.row j hj).1
  · exact (World.cell?_of_block (a := ⟨q, _, none⟩) (hb q hq2)).trans (h.row j hj).2.1
  · exact (World.cell?_of_block (a := ⟨q, _, none⟩) (hb q hq2)).trans (h.row j hj).2.2
  · obtain ⟨g, c, e, h1, h2, h3, h4⟩ := h.new j hj
    rcases hi with hi | hi
    · have := hlt j i (by omega) hi
      have := h.k.size
      omega
    · rw [e] at hi
      simp only [Value.ownBlock, Option.some.injEq] at hi
      omega
  · intro g c n e
    obtain ⟨g', c', e', _, h3, _, _⟩ := h.new j hj
    rw [e] at e'
    simp only [Value.slice.injEq, Option.some.injEq, Addr.mk.injEq, and_true] at e'
    omega
  · have := (h.old m hm (Nat.le_refl _)).1.kept hkb
    rw [Nat.add_zero]
    exact this
theorem GrowJ.stop {E : Ents} {p q B : Nat} {w W : World} {m H g cap : Nat} {lg : Nat → Value} (h : GrowJ E q B w W m 70 H (.slice (some ⟨g, 0, none⟩) (E.len m + 70) cap) lg) (hA : E.Apart p q)
    (hlt : ∀ j g, j < E.N → (E.l j).ownBlock = some g → g < w.heap.size) (hq : q < w.heap.size) (hm : m < E.N) :
    GrowI E q B w (W.setCell ⟨q, m * 3 + 1, none⟩ (.slice (some ⟨g, 0, none⟩) (E.len m + 70) cap)) (m + 1) (upd lg m (.slice (some ⟨g, 0, none⟩) (E.len m + 70) cap)) := by
  generalize hv : Value.slice (some ⟨g, 0, none⟩) (E.len m + 70) cap = v at *
  have hother : ∀ i, i ≠ q → (W.setCell ⟨q, m * 3 + 1, none⟩ v).heap[i]? = W.heap[i]? := fun i hi => Below.heap_setCell W _ v i hi
  have hsz : W.heap.size ≤ (W.setCell ⟨q, m * 3 + 1, none⟩ v).heap.size := by simp
  have hgq : g ≠ q := fun e => by
    rcases h.lie g (by rw [← hv]; rfl) with h1 | h1
    · exact hA.q ⟨m, hm, by rw [h1, e]⟩
    · have := h.lo; omega
  have hlq : ∀ j, j < E.N → ∀ i, (E.l j).ownBlock = some i → i ≠ q := fun j hj i hi e => hA.q ⟨j, hj, by rw [hi, e]⟩
  have hown : ∀ j, j < E.N → m ≤ j → Own (W.setCell ⟨q, m * 3 + 1, none⟩ v) B 52 .u16 (E.l j) (E.mks j) := fun j hj hjm => own_on (h.old j hj hjm).1 fun i hi => hother i (hlq j hj i hi)
  obtain ⟨cur, hc⟩ := h.blk
  have hc2 := heap_setCell_same W q (m * 3 + 1) cur 118 v hc
  have hr := h.row
  refine ⟨h.k.set q _ _ (.inl (.inr rfl)), ⟨_, hc2⟩, fun j hj => ?_, fun j hj hjm => ⟨hown j hj (by omega), ?_⟩, fun j hj => ?_⟩
  · obtain ⟨h1, h2, h3⟩ := hr j hj
    rw [cell_of_row _ q _ _ 118 _ hc] at h1 h2 h3
    rw [cell_of_row _ q _ _ 118 _ hc2, cell_of_row _ q _ _ 118 _ hc2, cell_of_row _ q _ _ 118 _ hc2]
    refine ⟨by rw [Array.getElem?_setIfInBounds_ne (by omega)]; exact h1, ?_, by rw [Array.getElem?_setIfInBounds_ne (by omega)]; exact h3⟩
    by_cases e : j = m
    · subst e
      rw [Array.getElem?_setIfInBounds_self_of_lt (by
        rcases Nat.lt_or_ge (j * 3 + 1) cur.size with hh | hh
        · exact hh
        · rw [Array.getElem?_eq_none hh] at h2; cases h2)]
      simp [upd]
    · rw [Array.getElem?_setIfInBounds_ne (by omega), h2]
      simp [upd, e]
  · have e : j ≠ m := by omega
    simp only [upd, if_neg e]
    exact (h.old j hj (by omega)).2
  · by_cases e : j = m
    · subst e
      simp only [upd, if_true]
      obtain ⟨A1, c1, e1, hRK, hcap, _⟩ := h.cur.slice
      have e1' := e1
      rw [← hv] at e1'
      simp only [Value.slice.injEq, List.length_replicate] at e1'
      obtain ⟨rfl, _, _⟩ := e1'
      obtain ⟨A2, c2, e2, hRK2, _, _⟩ := (hown j hm (Nat.le_refl _)).slice
      have hA2 : E.A j = A2 := by simp only [Ents.l, Value.slice.injEq] at e2; exact e2.1
      refine ⟨g, cap, hv.symm, ?_, Nat.lt_of_lt_of_le (World.ownsRow.lt h.cur g (by rw [← hv]; rfl)).2 hsz, ?_, by rw [hA2]; exact hRK2⟩
      · rcases hRK with h5 | ⟨b, off, e5, h5⟩
        · exact .inl h5
        · obtain ⟨rfl, rfl⟩ : g = b ∧ 0 = off := by simpa using e5
          exact .inr ⟨g, 0, rfl, fun i hi => (World.cell?_of_block (a := ⟨g, 0 + i, none⟩) (hother g hgq)).trans (h5 i hi)⟩
      · rcases h.lie g (by rw [← hv]; rfl) with h1 | h1
        · exact .inl h1
        · have := h.lo; exact .inr (by omega)
    · simp only [upd, if_neg e]
      have hjm : j < m := by omega
      obtain ⟨h1, _⟩ := h.new j hjm
      refine h1.step (fun i hi => hother i ?_) hsz
      rcases hi with hi | hi
      · exact hlq j (by omega) i hi
      · obtain ⟨g1, c1, e1, _, h3, h4, _⟩ := h1
        rw [e1] at hi
        simp only [Value.ownBlock, Option.some.injEq] at hi
        subst hi
        rintro rfl
        rcases h4 with h4 | h4
        · exact hlq j (by omega) _ h4 rfl
        · omega
/-- A block made ahead of the turn stays. -/
theorem GrowJ.local {E : Ents} {q B : Nat} {w W W2 : World} {m k H : Nat} {v : Value} {lg : Nat → Value} (h : GrowJ E q B w W m k H v lg) (hlt : ∀ j g, j < E.N → (E.l j).ownBlock = some g → g < w.heap.size) (hm : m < E.N) {o : Obj} {n g cap : Nat}
    (ht : Tight (W.alloc o) W2 v n g cap) (i : Nat) (h1 : w.heap.size ≤ i) (h2 : i < H) : W2.heap[i]? = W.heap[i]? := by
  have hs : (W.alloc o).heap.size = W.heap.size + 1 := by simp
  have hi : i < W.heap.size := by have := h.lo; omega
  have hgr : (W.alloc o).grownBy W2 v.ownBlock := by
    rcases ht with ⟨rfl, h2⟩ | ⟨_, h2⟩
    · exact h2
    · exact ⟨h2.os, h2.tape, h2.output, h2.size, fun i hi _ => h2.block i hi (by simp)⟩
  refine (hgr.block i (by omega) fun e => ?_).trans (Below.heap_alloc W o i hi)
  rcases h.lie i e.symm with h3 | h3
  · have := hlt m i hm h3; omega
  · omega
end Go.Proofs.YtolnnkalgioobaaGreatDoor
