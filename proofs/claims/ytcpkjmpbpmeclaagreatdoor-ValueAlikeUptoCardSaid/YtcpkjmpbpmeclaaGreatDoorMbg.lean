/- append onto a row of the call's own: in place or in a new block. -/
import Derived.Test.YtcpkjmpbpmeclaaGreatDoorMak
import Derived.Deep.AppendLies
import Derived.Laws.AppendOwn
namespace Go.Proofs.YtcpkjmpbpmeclaaGreatDoor
open Go.RowKit
set_option maxRecDepth 100000
set_option linter.unusedVariables false
set_option linter.unusedSimpArgs false
set_option linter.unnecessarySimpa false

/-- Where an append onto a row of the call's own lies: in the row itself, or in a new block: then nothing is touched. -/
def Tight (W W1 : World) (v : Value) (n g cap : Nat) : Prop := (v = .slice (some ⟨g, 0, none⟩) n cap ∧ W.grownBy W1 (some g)) ∨ (g = W.heap.size ∧ W.grownBy W1 none)
section
variable {P : Program} {ops : Array Oper} {rest : List Oper} {o : Oper} {a : Act} {Q : Exit → Act → World → Prop}
theorem run_tight (w : World) (t ty : TypeId) (B : Nat) (e : TypeId) (i : TypeInfo) (z : Value) (size bytes : Nat) (ht : P.underlying t = some (.slice e)) (hi : P.info? e = some i) (hz : i.zero = some z)
  (hsize : i.size = size) (hby : i.bytes = bytes) (hzs : z.cells.size = size) (hsz : 0 < size) (v : Value) (n : Nat) (xs : List Value) (hown : w.ownsRow B e size v n xs)
  (ad : Addr) (c : Nat) (news : List Value) (hl : news.length = size) (hnews : ∀ j u, news[j]? = some u → w.cell? (ad.add j) = some u) (h1 : ∀ u ∈ news, u.oneCell' = true)
  (h63 : n + 1 ≤ 1000000000000) (hb : bytes ≤ 100) (hbase : B ≤ w.heap.size) :
  ∃ g cap w', (Builtin.append_ #[t, t] ty #[v, .slice (some ad) 1 c]).run P w = .ok (.slice (some ⟨g, 0, none⟩) (n + 1) cap) w' ∧
   w'.ownsRow B e size (.slice (some ⟨g, 0, none⟩) (n + 1) cap) (n + 1) (xs ++ news) ∧ Tight w w' v n g cap := by
 have hbytes : (n + 1) * bytes ≤ 140737488355328 := Nat.le_trans (Nat.mul_le_mul h63 hb) (by decide)
 obtain ⟨g, cap, w', hr, ho, hg, hat, hlt⟩ := run_append_lies (P := P) w t ty B e i z size bytes ht hi hz hsize hby hzs hsz v n xs hown ad 1 c news (by omega) hnews h1 (by decide) (by simp only [maxLen]; omega) hbytes hbase _ rfl
 refine ⟨g, cap, w', hr, ho, ?_⟩
 rcases hown.2 with ⟨rfl, rfl⟩ | ⟨g0, cap0, cur, rfl, hbg, hgg, hnc, hcm, hcs, htake⟩
 ·right
  have h2 := run_append_nil (P := P) w t ty e i z ht hi hz ad 1 c news (by omega) hnews (by decide) (by decide) (by rw [hby]; omega)
  rw [hr] at h2
  simp only [Result.ok.injEq, Value.slice.injEq, Option.some.injEq, Addr.mk.injEq, and_true] at h2
  obtain ⟨⟨rfl, _⟩, rfl⟩ := h2
  exact ⟨rfl, ⟨rfl, rfl, rfl, by simp, fun k hk _ => Below.heap_alloc w.drew _ k hk⟩⟩
 ·by_cases hroom : n + 1 ≤ cap0
  ·left
   have hfit : n * i.size + news.length ≤ cur.size := by rw [hl, hcs, hsize, ← Nat.succ_mul]; exact Nat.mul_le_mul_right _ hroom
   have h2 := run_append_room (P := P) w t ty e i ht hi g0 n cap0 cur hgg ad 1 c news (by omega) hnews h1 hroom hfit
   rw [hr] at h2
   simp only [Result.ok.injEq, Value.slice.injEq, Option.some.injEq, Addr.mk.injEq, and_true] at h2
   obtain ⟨⟨rfl, _, rfl⟩, _⟩ := h2
   exact ⟨rfl, hg⟩
  ·right
   have h2 := run_append_grow (P := P) w t ty e i z ht hi hz ⟨g0, 0, none⟩ n cap0 xs (by rw [hown.1, hsize]) (hown.cells (g := g0) rfl) ad 1 c news (by omega) hnews (by omega) (by omega) (by rw [hby]; exact growslice_fits (by omega) hbytes)
   rw [hr] at h2
   simp only [Result.ok.injEq, Value.slice.injEq, Option.some.injEq, Addr.mk.injEq, and_true] at h2
   obtain ⟨⟨rfl, _⟩, rfl⟩ := h2
   exact ⟨rfl, ⟨rfl, rfl, rfl, by simp, fun k hk _ => Below.heap_alloc w.drew _ k hk⟩⟩
theorem wpList_tight (w : World) (hgd : o.guard = none) (s x : Operand) (t : TypeId) (ho : o.op = .call { callee := .builtin .append, args := #[s, x], argTypes := #[t, t] })
  (B : Nat) (e : TypeId) (i : TypeInfo) (z : Value) (size bytes : Nat) (ht : P.underlying t = some (.slice e)) (hi : P.info? e = some i) (hz : i.zero = some z)
  (hsize : i.size = size) (hby : i.bytes = bytes) (hzs : z.cells.size = size) (hsz : 0 < size) (v : Value) (n : Nat) (xs : List Value) (hs : a.eval s = v) (hown : w.ownsRow B e size v n xs)
  (ad : Addr) (c : Nat) (news : List Value) (hx : a.eval x = .slice (some ad) 1 c) (hl : news.length = size) (hnews : ∀ j u, news[j]? = some u → w.cell? (ad.add j) = some u) (h1 : ∀ u ∈ news, u.oneCell' = true)
  (h63 : n + 1 ≤ 1000000000000) (hb : bytes ≤ 100) (hbase : B ≤ w.heap.size)
  (h : ∀ g cap w', w'.ownsRow B e size (.slice (some ⟨g, 0, none⟩) (n + 1) cap) (n + 1) (xs ++ news) → Tight w w' v n g cap → wpList P ops Q rest (a.put o.dst (.slice (some ⟨g, 0, none⟩) (n + 1) cap)) w') :
  wpList P ops Q (o :: rest) a w := by
 refine wpList_plain hgd fun K hK => ?_
 obtain ⟨g, cap, w', hr, h2, h3⟩ := run_tight (P := P) w t o.type B e i z size bytes ht hi hz hsize hby hzs hsz v n xs hown ad c news hl hnews h1 h63 hb hbase
 unfold Oper.wp execOp
 simp only [ho, resolve, invoke, builtin, Sem.run_bind, Sem.run_pure, Result.andThen_ok, List.map_toArray, List.map_cons, List.map_nil, hs, hx, hr]
 exact hK _ _ (h g cap w' h2 h3)
theorem step_tight {K : Act → World → Prop} {E : Prop} (w : World) (hgd : o.guard = none) (s x : Operand) (t : TypeId) (ho : o.op = .call { callee := .builtin .append, args := #[s, x], argTypes := #[t, t] })
  (B : Nat) (e : TypeId) (i : TypeInfo) (z : Value) (size bytes : Nat) (ht : P.underlying t = some (.slice e)) (hi : P.info? e = some i) (hz : i.zero = some z)
  (hsize : i.size = size) (hby : i.bytes = bytes) (hzs : z.cells.size = size) (hsz : 0 < size) (v : Value) (n : Nat) (xs : List Value) (hs : a.eval s = v) (hown : w.ownsRow B e size v n xs)
  (ad : Addr) (c : Nat) (news : List Value) (hx : a.eval x = .slice (some ad) 1 c) (hl : news.length = size) (hnews : ∀ j u, news[j]? = some u → w.cell? (ad.add j) = some u) (h1 : ∀ u ∈ news, u.oneCell' = true)
  (h63 : n + 1 ≤ 1000000000000) (hb : bytes ≤ 100) (hbase : B ≤ w.heap.size)
  (h : ∀ g cap w', w'.ownsRow B e size (.slice (some ⟨g, 0, none⟩) (n + 1) cap) (n + 1) (xs ++ news) → Tight w w' v n g cap → K (a.put o.dst (.slice (some ⟨g, 0, none⟩) (n + 1) cap)) w') :
  if Region.wanted o (yielded ops a.tmps) = true then Oper.wp P o a w K Q else E := by
 rw [if_pos (by simp [Region.wanted, hgd])]
 obtain ⟨g, cap, w', hr, h2, h3⟩ := run_tight (P := P) w t o.type B e i z size bytes ht hi hz hsize hby hzs hsz v n xs hown ad c news hl hnews h1 h63 hb hbase
 unfold Oper.wp execOp
 simp only [ho, resolve, invoke, builtin, Sem.run_bind, Sem.run_pure, Result.andThen_ok, List.map_toArray, List.map_cons, List.map_nil, hs, hx, hr]
 exact h g cap w' h2 h3
end

theorem own_tight {W W1 : World} {B : Nat} {e : TypeId} {k : IntKind} {v : Value} {xs : List Int} {y : Int} {n g cap : Nat} (HO : Own W B e k v xs) (hn : xs.length = n) (ht : Tight W W1 v n g cap)
  (h1 : Own W1 B e k (.slice (some ⟨g, 0, none⟩) (n + 1) cap) (xs ++ [y])) : Own W1 B e k v xs := by
 rcases ht with ⟨rfl, hg⟩ | ⟨rfl, hg⟩
 ·exact own_cut h1 hn
 ·exact HO.keepB fun b hb => hg.block b (World.ownsRow.lt HO b hb).2 (by simp)
/-- Behind the append and a call that grew the new row: the old row still is, and nothing else was touched. -/
theorem own_back {W W1 W2 : World} {B : Nat} {e : TypeId} {k : IntKind} {v : Value} {xs : List Int} {y : Int} {n g cap : Nat} (HO : Own W B e k v xs) (hn : xs.length = n) (ht : Tight W W1 v n g cap)
  (h2 : Own W2 B e k (.slice (some ⟨g, 0, none⟩) (n + 1) cap) (xs ++ [y])) (hg : W1.grownBy W2 (some g)) : Own W2 B e k v xs ∧ W.grownBy W2 v.ownBlock := by
 rcases ht with ⟨rfl, h⟩ | ⟨rfl, h⟩
 ·refine ⟨own_cut h2 hn, ⟨hg.os.trans h.os, hg.tape.trans h.tape, hg.output.trans h.output, Nat.le_trans h.size hg.size, fun i hi hne => ?_⟩⟩
  exact (hg.block i (Nat.lt_of_lt_of_le hi h.size) hne).trans (h.block i hi hne)
 ·have key : ∀ i, i < W.heap.size → W2.heap[i]? = W.heap[i]? := fun i hi => (hg.block i (Nat.lt_of_lt_of_le hi h.size) (by simp; omega)).trans (h.block i hi (by simp))
  exact ⟨HO.keepB fun b hb => key b (World.ownsRow.lt HO b hb).2, ⟨hg.os.trans h.os, hg.tape.trans h.tape, hg.output.trans h.output, Nat.le_trans h.size hg.size, fun i hi _ => key i hi⟩⟩
theorem tight_grown {W W1 : World} {v : Value} {n g cap : Nat} (h : Tight W W1 v n g cap) : W.grownBy W1 v.ownBlock := by
 rcases h with ⟨rfl, h⟩ | ⟨_, h⟩
 ·exact h
 ·exact ⟨h.os, h.tape, h.output, h.size, fun k hk _ => h.block k hk (by simp)⟩
theorem infop_int : ∃ i0 z0, Tryz.prog.info? 3 = some i0 ∧ i0.zero = some z0 ∧ i0.size = 1 ∧ i0.bytes = 8 ∧ z0.cells.size = 1 := by
 obtain ⟨i0, hi, hzz⟩ := Option.map_eq_some_iff.1 info_int
 simp only [Prod.mk.injEq] at hzz
 exact ⟨i0, _, hi, hzz.1, hzz.2.1, hzz.2.2, rfl⟩
end Go.Proofs.YtcpkjmpbpmeclaaGreatDoor
