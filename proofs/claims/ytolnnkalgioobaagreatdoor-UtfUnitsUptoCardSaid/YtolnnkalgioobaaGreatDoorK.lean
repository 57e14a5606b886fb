/- The iterator utf.All. -/
import Derived.RangeFuncNested
import Derived.RangeFuncBound
import Derived.RangeFuncCalls
import Derived.RangeFuncLeaves
import Derived.RangeFuncBox
import Derived.Shelf.Abstract
import Derived.Shelf.RegionOpen
import Derived.WalkKit
import Derived.OwnWalkIn
import Derived.TacticsInMore
import Derived.LoopNIn
import Derived.LoopIn
import Derived.Maps.AppendAt
import Derived.Test.YtolnnkalgioobaaGreatDoorJ
namespace Go.Proofs.YtolnnkalgioobaaGreatDoor
open Go.RowKit Go.Shelf
attribute [local go_sem] Oper.semAt_some
set_option maxRecDepth 100000
set_option linter.unusedVariables false
set_option linter.unusedSimpArgs false
set_option linter.unnecessarySimpa false

/-- A step: its place, its code point. -/
abbrev Step := { x : Nat × Int // isPt x.2 = true }
/-- The steps of a text, up to the first that is none. -/
def stepsK : Nat → ByteArray → Nat → List Step
  | 0, _, _ => []
  | k + 1, s, a => match h : decS s a with
    | none => []
    | some (p, n) => ⟨(a, p), (decS_some h).1⟩ :: stepsK k s (a + n)
def stepsF (s : ByteArray) : List Step := stepsK s.size s 0
theorem stepsK_none {s : ByteArray} {a : Nat} (h : decS s a = none) : ∀ k, stepsK k s a = []
  | 0 => rfl
  | k + 1 => by
    rw [stepsK]
    split
    · rfl
    · rename_i h2
      rw [h] at h2
      cases h2
theorem stepsK_some {s : ByteArray} {a n k : Nat} {p : Int} (h : decS s a = some (p, n)) : stepsK (k + 1) s a = ⟨(a, p), (decS_some h).1⟩ :: stepsK k s (a + n) := by
  rw [stepsK]
  split
  · rename_i h2
    rw [h] at h2
    cases h2
  · rename_i h2
    rw [h] at h2
    obtain ⟨rfl, rfl⟩ := Prod.mk.inj (Option.some.inj h2)
    rfl

/-- What a round keeps: what lay below, and the text's box. -/
def KpB (n₀ Bs : Nat) (A B : World) : Prop := Below n₀ A B ∧ B.heap[Bs]? = A.heap[Bs]?
theorem KpB.refl (n₀ Bs : Nat) (A : World) : KpB n₀ Bs A A := ⟨Below.refl _ _, rfl⟩
theorem KpB.trans {n₀ Bs : Nat} {A B C : World} (h : KpB n₀ Bs A B) (k : KpB n₀ Bs B C) : KpB n₀ Bs A C := ⟨h.1.trans k.1, k.2.trans h.2⟩

set_option maxHeartbeats 2000000 in
theorem all1_in (F : Fence) (n : Nat) (h39 : F.fn 87) (h12 : F.fn 76) (hro : F.round = none) (hn : 2 ≤ n) (l Bs n₀ : Nat) (s : ByteArray) (hs : s.size ≤ 140737488351232)
    (hfirst : ∀ (a : Nat) (W : World), a ≤ 140737488351232 → CallsIn F (n - 1) Tryz.prog 76 #[.string s, .int .i64 a] W fun e w' => e = .returned (firstV (decS s a)) ∧ W = w')
    (J Jx : List Step → World → Prop)
    (hY : ∀ pre x W, J pre W → pre.length < (stepsF s).length → YieldAt F (n - 1) Tryz.prog l #[.int .i64 (x.1.1 : Int), .int .i32 x.1.2] W fun e W' =>
      (e = .returned (.bool true) ∧ J (pre ++ [x]) W' ∧ KpB n₀ Bs W W') ∨ (e = .returned (.bool false) ∧ Jx (pre ++ [x]) W'))
    (W : World) (hBs : W.cell? ⟨Bs, 0, none⟩ = some (.string s)) (h0 : J [] W) :
    CallsIn F n Tryz.prog 87 #[.func (.yield l) #[] #[], .pointer (some ⟨Bs, 0, none⟩)] W fun e W' => (∃ v, e = .returned v) ∧
      ((∃ ys, ys = stepsF s ∧ J ys W') ∨ (∃ pre, pre <+: stepsF s ∧ Jx pre W')) := by
  refine callsIn_of_wp Tryz.func87 rfl h39 ?_ hro
  simp only [Tryz.ntmps87, List.size_toArray, List.length_cons, List.length_nil, Nat.reduceAdd, Nat.reduceSub, Array.replicate_succ, Array.replicate_zero, List.push_toArray, List.append_toArray, List.nil_append, List.cons_append]
  have h1 : 1 ≤ n := by omega
  gi_wp2
  gi_loopw [3] (fun i wr => ∃ (a k : Nat) (pre : List Step), i = .int .i64 a ∧ a ≤ s.size ∧ s.size ≤ a + k ∧ stepsF s = pre ++ stepsK k s a ∧ J pre wr ∧ KpB n₀ Bs W wr)
    (fun i _ => s.size - (intOf i).toNat)
  case atStart => exact ⟨0, s.size, [], rfl, by omega, by omega, rfl, h0, KpB.refl _ _ _⟩
  case round =>
    obtain ⟨a, k, pre, rfl, ha, hk, hx, hJs, hnx⟩ := hrel
    have hcell : wr.cell? ⟨Bs, 0, none⟩ = some (.string s) := (World.cell?_of_block (a := ⟨Bs, 0, none⟩) hnx.2).trans hBs
    by_cases hlt : a < s.size
    · have hf := fun W => hfirst a W (by omega)
      have hlt2 : (a : Int) < (s.size : Int) := by omega
      rcases hd : decS s a with _ | ⟨p, m⟩
      · rw [hd] at hf
        simp only [firstV] at hf
        rw [stepsK_none hd, List.append_nil] at hx
        have HX := Lib.hid hx
        clear hx hd hlt
        gi_wp2_with (gi_at_call 76; refine (hf _).mono ?_; rintro e w1 ⟨rfl, rfl⟩)
        refine ⟨fun _ h => (by cases h), ?_⟩
        gi_wp2
        refine bodyPost_ret (results_none rfl _ _ _) rfl ?_
        exact ⟨⟨_, rfl⟩, .inl ⟨_, HX.out.symm, hJs⟩⟩
      · rw [hd] at hf
        simp only [firstV] at hf
        have hds := decS_some hd
        obtain ⟨k, rfl⟩ : ∃ q, k = q + 1 := ⟨k - 1, by omega⟩
        rw [stepsK_some hd] at hx
        obtain ⟨hpt, hm1, hm4, ham⟩ := hds
        replace hx : stepsF s = pre ++ ⟨(a, p), hpt⟩ :: stepsK k s (a + m) := hx
        obtain ⟨fn, tmps, assign, body, hy, hR⟩ := hY pre ⟨(a, p), hpt⟩ wr hJs (by rw [hx]; simp)
        dsimp only at hy
        have HX := Lib.hid hx
        clear hx hd hlt
        gi_wp2_with (gi_at_call 76; refine (hf _).mono ?_; rintro e w1 ⟨rfl, rfl⟩)
        refine hR.mono ?_
        rintro e W3 (⟨rfl, hJ3, hk3⟩ | ⟨rfl, hJx3⟩)
        · gi_wp2
          go_roundw
          case rel => exact ⟨a + m, k, pre ++ [⟨(a, p), hpt⟩], by go_num, by omega, by omega, by rw [HX.out]; simp, hJ3, hnx.trans hk3⟩
          case measure => simp [intOf]; omega
        · gi_wp2
          refine bodyPost_ret (results_none rfl _ _ _) rfl ?_
          exact ⟨⟨_, rfl⟩, .inr ⟨pre ++ [⟨(a, p), hpt⟩], ⟨stepsK k s (a + m), by rw [HX.out]; simp⟩, hJx3⟩⟩
    · have hx2 : stepsF s = pre := by rw [hx, stepsK_none (decS_end (by omega))]; simp
      have HX := Lib.hid hx2
      have hge : ¬ ((a : Int) < (s.size : Int)) := by omega
      clear hx hx2 hlt
      gi_wp2
      go_end0
      exact ⟨⟨_, rfl⟩, .inl (by rw [HX.out]; exact hJs)⟩

/-- utf.All(s): the text is boxed; the function value holds the box. -/
theorem all_any (s : ByteArray) (w : World) : Calls Tryz.prog 26 #[.string s] w fun e w' => e = .returned (.func (.func 87) #[] #[.pointer (some ⟨w.heap.size, 0, none⟩)]) ∧ w' = w.alloc (.cells #[.string s] 9) := by
  go_enter Tryz.func26, Tryz.ntmps26
  go_wp2
  go_ret
  exact ⟨rfl, rfl⟩
/-- What it hands back stops: all steps, in their order; or a beginning of them, where a round has said no more. -/
theorem all_stops (s : ByteArray) (hs : s.size ≤ 140737488351232) (n Bs n₀ : Nat) (hn : 2 ≤ n) (w : World) (hBs : Bs < w.heap.size) (hc : w.cell? ⟨Bs, 0, none⟩ = some (.string s)) :
    SeqStopsK Fence.wide n Tryz.prog 87 #[.pointer (some ⟨Bs, 0, none⟩)] (fun x : Step => #[Value.int .i64 (x.1.1 : Int), Value.int .i32 x.1.2]) (KpB n₀ Bs) (fun ys => ys = stepsF s) (fun pre => pre <+: stepsF s) (stepsF s).length w := fun l J Jx W hW _ _ hY h0 =>
  all1_in Fence.wide n trivial trivial rfl hn l Bs n₀ s hs (fun a W ha => callsIn_wide.2 (first_any s a W ha)) J Jx hY W ((hW.cell (p := ⟨Bs, 0, none⟩) hBs).trans hc) h0
end Go.Proofs.YtolnnkalgioobaaGreatDoor
