/- value.walk: the visit of a whole value. -/
import Derived.Test.YtcpkjmpbpmeclaaGreatDoorMal
import Derived.Test.YtcpkjmpbpmeclaaGreatDoorMan
namespace Go.Proofs.YtcpkjmpbpmeclaaGreatDoor
open Go.RowKit
set_option maxRecDepth 100000
set_option linter.unusedVariables false
set_option linter.unusedSimpArgs false
set_option linter.unnecessarySimpa false

/-- What 'wrong' answers of all parts of a value. -/
def WrongC (w : World) (N : FuncId) (p : VT → Nat → Bool) (s : Nat) : Prop :=
 ∀ (x : VT) (d : Nat) (z : Int) (W : World), x.sz ≤ s → In w x → z = d → d ≤ 2000000000 → Below w.heap.size w W → Calls Tryz.prog N #[x.agg, .int .i64 z] W fun e w' => e = .returned (.bool (p x d)) ∧ Below W.heap.size W w'
theorem visit_n (w : World) (N : FuncId) (p : VT → Nat → Bool) (eN : ∀ args w, (callFunc N args).run Tryz.prog w = .ok (.enter N args) w) : ∀ (q : Nat) (v : VT) (d : Nat) (pre : List Nat) (z : Int) (W : World),
  v.sz ≤ q → v.sz ≤ 1000000000 → z = d → d + v.sz ≤ 2000000000 → pre.length + v.sz ≤ 2000000000 → In w v → WInv w N pre W → WrongC w N p v.sz →
  Calls Tryz.prog 134 #[v.agg, .int .i64 z, .pointer (some ⟨w.heap.size + 1, 0, none⟩), .pointer (some ⟨w.heap.size + 2, 0, none⟩), .pointer (some ⟨w.heap.size + 3, 0, none⟩)] W fun e w' =>
   e = .returned (.bool (badAt p v d).isSome) ∧ WInv w N (pre ++ (badAt p v d).getD []) w'
 | 0, v, d, pre, z, W, h, _, _, _, _, _, _, _ => by have := v.sz_pos; omega
 | q + 1, v, d, pre, z, W, h, hs, hz, hd, hp, hI, hW, hC => by
  have hln := VT.szL_len v.l
  have hsl := VT.sz_l v
  rw [badAt_eq]
  refine visitW w N p v.k v.n v.bits v.ext v.neg v.text v.mA v.A v.mag.length v.mcap v.l.length v.cap v.l d pre (p v d) z W eN hz (by omega) rfl (by omega) (by omega) hW hI.parts.row
   (Lib.hid fun X hX => hC v d z X (Nat.le_refl _) hI hz (by omega) hX) (Lib.hid fun i hi z' X hz' hX => ?_)
  have hm : v.l[i] ∈ v.l := List.getElem_mem hi
  have hk := VT.kid_sz hm
  have hsz := VT.szL_mem hm
  refine visit_n w N p eN q _ _ (pre ++ [i]) z' X (by omega) (by omega) hz' (by split <;> omega) (by simp only [List.length_append, List.length_cons, List.length_nil]; omega) (hI.kid hm) hX ?_
  exact fun x d z W h1 => hC x d z W (by omega)
/-- The steps are few and small. -/
theorem badAt_small (p : VT → Nat → Bool) : ∀ (q : Nat) (v : VT) (d : Nat) (r : List Nat), v.sz ≤ q → badAt p v d = some r → r.length ≤ v.sz ∧ ∀ n ∈ r, n ≤ v.sz
 | 0, v, d, r, h, _ => by have := v.sz_pos; omega
 | q + 1, v, d, r, h, hr => by
  have hsl := VT.sz_l v
  have hln := VT.szL_len v.l
  rw [badAt_eq] at hr
  split at hr
  ·injection hr with hr
   subst hr
   exact ⟨by simp, fun n hn => by simp at hn⟩
  ·have go : ∀ (l : List VT) (D i : Nat) (r : List Nat), (∀ x ∈ l, x.sz + 1 ≤ v.sz) → l.length + i ≤ v.sz → badAtL p l D i = some r → r.length ≤ v.sz ∧ ∀ n ∈ r, n ≤ v.sz := by
    intro l
    induction l with
    | nil => intro D i r _ _ hr; cases hr
    | cons x l ih =>
     intro D i r hx hi hr
     rw [badAtL_cons] at hr
     have hx0 := hx x (by simp)
     split at hr
     ·rename_i r' hr'
      injection hr with hr
      subst hr
      obtain ⟨h1, h2⟩ := badAt_small p q x D r' (by omega) hr'
      refine ⟨by simp only [List.length_cons]; omega, fun n hn => ?_⟩
      rcases List.mem_cons.1 hn with rfl | hn
      ·simp at hi; omega
      ·have := h2 n hn; omega
     ·exact ih D (i + 1) r (fun y hy => hx y (by simp [hy])) (by simp at hi; omega) hr
   exact go v.l _ 0 r (fun x hx => by have := VT.szL_mem hx; omega) (by omega) hr
end Go.Proofs.YtcpkjmpbpmeclaaGreatDoor
