/- fault.New, moved, Shift, In, First. -/
import Derived.Test.YtfjgjhicinaolaaDoorE
import Derived.Test.YtfjgjhicinaolaaDoorEsc
import Derived.Test.YtfjgjhicinaolaaDoorShelf
import Derived.StillTailTactics
namespace Go.Proofs.YtfjgjhicinaolaaDoor
open Go.RowKit Go.Extern.Stop Go.Stop Go.Extern
set_option maxRecDepth 100000
set_option linter.unusedVariables false
set_option linter.unusedSimpArgs false
set_option linter.unnecessarySimpa false

structure Seat (a : Nat → Addr) (oa : Addr) (w : World) : Prop where
  e : Errs a w
  o : w.cell? ⟨12, 0, none⟩ = some (.iface 94 (.pointer (some oa)))
  h : Holds a w (.other oa)
  m : ∃ m, w.cell? ⟨13, 0, none⟩ = some (.int .i64 m)
theorem Seat.below {a : Nat → Addr} {oa : Addr} {w w1 : World} (h : Seat a oa w) (hb : Below w.heap.size w w1) : Seat a oa w1 := by
  obtain ⟨m, hm⟩ := h.m
  exact ⟨h.e.below hb, keep1 hb h.o, h.h.below hb, ⟨m, keep1 hb hm⟩⟩
def innerT (oa : Addr) (c : Int) : ET := if 1 ≤ c ∧ c ≤ 11 then .sent c.toNat else .other oa
theorem innerT_holds {a : Nat → Addr} {oa : Addr} {w : World} (h : Holds a w (.other oa)) (c : Int) : Holds a w (innerT oa c) := by
  unfold innerT
  by_cases hc : 1 ≤ c ∧ c ≤ 11
  · rw [if_pos hc]; simp only [Holds]; omega
  · rw [if_neg hc]; exact h

/-- A new error of what T says. -/
def NewPost (a : Nat → Addr) (w : World) (T : Nat → ET) (e : Ending) (w' : World) : Prop :=
  ∃ p, w.heap.size ≤ p ∧ e = .returned ((T p).val a) ∧ Holds a w' (T p) ∧ Below w.heap.size w w'

theorem New_in (a : Nat → Addr) (k : Nat) (at_ : Int) (path : ByteArray) (w : World) (hE : Errs a w) (h0 : 1 ≤ k) (h1 : k ≤ 11) :
    Calls Tryd.prog 15 #[.int .i64 k, .int .i64 at_, .string path] w (NewPost a w fun p => .fault p at_ path (.sent k)) := by
  have hc := flt_in a k w hE h0 h1
  clear hE
  go_enter Tryd.func15, Tryd.ntmps15
  go_wp2_with (go_at_call 36; refine hc.mono ?_; rintro e w1 ⟨rfl, hb⟩)
  go_ret
  exact ⟨_, hb.size, rfl, by simp [Holds, ET.val]; omega, hb.alloc hb.size _⟩
theorem New_out (a : Nat → Addr) (c : Int) (at_ : Int) (path : ByteArray) (w : World) (hE : Errs a w) (h : c < 1 ∨ 11 < c) :
    Calls Tryd.prog 15 #[.int .i64 c, .int .i64 at_, .string path] w fun e w' => e = .returned .nilIface ∧ Below w.heap.size w w' := by
  have hc := flt_out a c w hE h
  clear hE h
  go_enter Tryd.func15, Tryd.ntmps15
  go_wp2_with (go_at_call 36; refine hc.mono ?_; rintro e w1 ⟨rfl, hb⟩)
  go_ret
  exact ⟨rfl, hb⟩

theorem moved_any (a : Nat → Addr) (oa : Addr) (T : ET) (at_ : Int) (path : ByteArray) (w : World) (hS : Seat a oa w) (hT : Holds a w T) :
    Calls Tryd.prog 41 #[T.val a, .int .i64 at_, .string path] w (NewPost a w fun p => .fault p at_ path (innerT oa T.code)) := by
  have hc := code_any a T w hS.e hT
  have HL : Hid (∀ W, Below w.heap.size w W → Calls Tryd.prog 36 #[.int .i64 T.code] W fun e w' => e = .returned ((sentT T.code).val a) ∧ Below W.heap.size W w') := Lib.hid fun W hb => flt_any a _ W (hS.e.below hb)
  have HI : Hid (∀ W, Below w.heap.size w W → Holds a W (innerT oa T.code)) := Lib.hid fun W hb => innerT_holds (hS.h.below hb) _
  have HO : Hid (∀ W, Below w.heap.size w W → W.cell? ⟨12, 0, none⟩ = some (.iface 94 (.pointer (some oa)))) := Lib.hid fun W hb => keep1 hb hS.o
  generalize T.val a = v at hc ⊢
  generalize T.code = c at hc HL HI ⊢
  clear hS hT
  have HBB : Hid (∀ (W1 W2 : World), Below w.heap.size w W1 → Below W1.heap.size W1 W2 → Below w.heap.size w W2) := Lib.hid fun W1 W2 h k => trans_b h k
  by_cases h : 1 ≤ c ∧ c ≤ 11
  · have e1 : sentT c = .sent c.toNat := by unfold sentT; rw [if_pos h]
    have e2 : innerT oa c = .sent c.toNat := by unfold innerT; rw [if_pos h]
    rw [e1] at HL
    rw [e2] at HI ⊢
    simp only [ET.val] at HL
    clear e1 e2
    go_enter Tryd.func41, Tryd.ntmps41
    go_wp2_with (first | (go_at_call 26; refine hc.mono ?_; rintro e w1 ⟨rfl, hb⟩; have hl := HL.out w1 hb) | (go_at_call 36; refine hl.mono ?_; rintro e w2 ⟨rfl, hb2⟩; have hb3 := HBB.out _ _ hb hb2))
    go_ret
    exact ⟨_, hb3.size, rfl, by simp [Holds, ET.val]; omega, hb3.alloc hb3.size _⟩
  · have e1 : sentT c = .nil := by unfold sentT; rw [if_neg h]
    have e2 : innerT oa c = .other oa := by unfold innerT; rw [if_neg h]
    rw [e1] at HL
    rw [e2] at HI ⊢
    simp only [ET.val] at HL
    clear e1 e2
    go_enter Tryd.func41, Tryd.ntmps41
    go_wp2_with (first | (go_at_call 26; refine hc.mono ?_; rintro e w1 ⟨rfl, hb⟩; have hl := HL.out w1 hb) | (go_at_call 36; refine hl.mono ?_; rintro e w2 ⟨rfl, hb2⟩; have hb3 := HBB.out _ _ hb hb2; have ho := HO.out _ hb3))
    go_ret
    have hI := HI.out _ (hb3.alloc hb3.size (.cells #[.iface 94 (.pointer (some oa)), .int .i64 at_, .string path] 45))
    exact ⟨_, hb3.size, rfl, by simp only [Holds] at hI ⊢; simp [ET.val]; simpa using hI, hb3.alloc hb3.size _⟩
end Go.Proofs.YtfjgjhicinaolaaDoor
