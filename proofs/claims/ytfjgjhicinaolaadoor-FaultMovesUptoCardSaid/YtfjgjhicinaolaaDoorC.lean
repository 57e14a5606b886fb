/- The sentinels by their numbers; the claim's own word; errors.Is. -/
import Derived.Test.YtfjgjhicinaolaaDoorB
namespace Go.Proofs.YtfjgjhicinaolaaDoor
open Go.RowKit Go.Extern.Stop Go.Stop Go.Extern
set_option maxRecDepth 100000
set_option linter.unusedVariables false
set_option linter.unusedSimpArgs false
set_option linter.unnecessarySimpa false

def sentA (a : Nat → Addr) : Array Value := #[.iface 94 (.pointer (some (a 1))), .iface 94 (.pointer (some (a 2))), .iface 94 (.pointer (some (a 3))), .iface 94 (.pointer (some (a 4))), .iface 94 (.pointer (some (a 5))), .iface 94 (.pointer (some (a 6))), .iface 94 (.pointer (some (a 7))), .iface 94 (.pointer (some (a 8))), .iface 94 (.pointer (some (a 9))), .iface 94 (.pointer (some (a 10))), .iface 94 (.pointer (some (a 11)))]
theorem sentA_at (a : Nat → Addr) (i : Nat) (h : i < 11) : (sentA a)[i]? = some (.iface 94 (.pointer (some (a (i + 1))))) := by
  rcases (by omega : i = 0 ∨ i = 1 ∨ i = 2 ∨ i = 3 ∨ i = 4 ∨ i = 5 ∨ i = 6 ∨ i = 7 ∨ i = 8 ∨ i = 9 ∨ i = 10) with rfl | rfl | rfl | rfl | rfl | rfl | rfl | rfl | rfl | rfl | rfl <;> rfl
/-- The error of a number. -/
def sentT (c : Int) : ET := if 1 ≤ c ∧ c ≤ 11 then .sent c.toNat else .nil

theorem law_in (a : Nat → Addr) (k : Nat) (w : World) (hE : Errs a w) (h0 : 1 ≤ k) (h1 : k ≤ 11) :
    Calls Tryd.prog 31 #[.int .i64 k] w fun e w' => e = .returned (.iface 94 (.pointer (some (a k)))) ∧ Below w.heap.size w w' := by
  have g1 : w.cell? ⟨2, 0, none⟩ = some (.iface 94 (.pointer (some (a 1)))) := hE.g 1 (by omega) (by omega)
  have g2 : w.cell? ⟨3, 0, none⟩ = some (.iface 94 (.pointer (some (a 2)))) := hE.g 2 (by omega) (by omega)
  have g3 : w.cell? ⟨1, 0, none⟩ = some (.iface 94 (.pointer (some (a 3)))) := hE.g 3 (by omega) (by omega)
  have g4 : w.cell? ⟨4, 0, none⟩ = some (.iface 94 (.pointer (some (a 4)))) := hE.g 4 (by omega) (by omega)
  have g5 : w.cell? ⟨5, 0, none⟩ = some (.iface 94 (.pointer (some (a 5)))) := hE.g 5 (by omega) (by omega)
  have g6 : w.cell? ⟨6, 0, none⟩ = some (.iface 94 (.pointer (some (a 6)))) := hE.g 6 (by omega) (by omega)
  have g7 : w.cell? ⟨7, 0, none⟩ = some (.iface 94 (.pointer (some (a 7)))) := hE.g 7 (by omega) (by omega)
  have g8 : w.cell? ⟨8, 0, none⟩ = some (.iface 94 (.pointer (some (a 8)))) := hE.g 8 (by omega) (by omega)
  have g9 : w.cell? ⟨9, 0, none⟩ = some (.iface 94 (.pointer (some (a 9)))) := hE.g 9 (by omega) (by omega)
  have g10 : w.cell? ⟨0, 0, none⟩ = some (.iface 94 (.pointer (some (a 10)))) := hE.g 10 (by omega) (by omega)
  have g11 : w.cell? ⟨10, 0, none⟩ = some (.iface 94 (.pointer (some (a 11)))) := hE.g 11 (by omega) (by omega)
  have hk0 : (1 : Int) ≤ (k : Int) := by omega
  have hk1 : (k : Int) ≤ 11 := by omega
  clear hE
  go_enter Tryd.func31, Tryd.ntmps31
  go_upto_region 2 with fail
  have hS : Below w.heap.size w (w.alloc (.cells (sentA a) 78)) := (Below.refl _ _).alloc (Nat.le_refl _) _
  have hC : (w.alloc (.cells (sentA a) 78)).cell? ⟨w.heap.size, k - 1, none⟩ = some (.iface 94 (.pointer (some (a k)))) := by
    rw [World.cell?_alloc_new, sentA_at a (k - 1) (by omega), show k - 1 + 1 = k by omega]
  obtain ⟨c, rfl⟩ : ∃ c, k = c + 1 := ⟨k - 1, by omega⟩
  simp only [Nat.add_sub_cancel] at hC
  clear g1 g2 g3 g4 g5 g6 g7 g8 g9 g10 g11
  show Code.wp _ _ _ _ (w.alloc (.cells (sentA a) 78))
  generalize (w.alloc (.cells (sentA a) 78)) = W0 at hS hC ⊢
  go_wp2
  go_ret
  exact ⟨rfl, hS⟩
theorem law_out (a : Nat → Addr) (c : Int) (w : World) (hE : Errs a w) (h : c < 1 ∨ 11 < c) :
    Calls Tryd.prog 31 #[.int .i64 c] w fun e w' => e = .returned .nilIface ∧ Below w.heap.size w w' := by
  have g1 : w.cell? ⟨2, 0, none⟩ = some (.iface 94 (.pointer (some (a 1)))) := hE.g 1 (by omega) (by omega)
  have g2 : w.cell? ⟨3, 0, none⟩ = some (.iface 94 (.pointer (some (a 2)))) := hE.g 2 (by omega) (by omega)
  have g3 : w.cell? ⟨1, 0, none⟩ = some (.iface 94 (.pointer (some (a 3)))) := hE.g 3 (by omega) (by omega)
  have g4 : w.cell? ⟨4, 0, none⟩ = some (.iface 94 (.pointer (some (a 4)))) := hE.g 4 (by omega) (by omega)
  have g5 : w.cell? ⟨5, 0, none⟩ = some (.iface 94 (.pointer (some (a 5)))) := hE.g 5 (by omega) (by omega)
  have g6 : w.cell? ⟨6, 0, none⟩ = some (.iface 94 (.pointer (some (a 6)))) := hE.g 6 (by omega) (by omega)
  have g7 : w.cell? ⟨7, 0, none⟩ = some (.iface 94 (.pointer (some (a 7)))) := hE.g 7 (by omega) (by omega)
  have g8 : w.cell? ⟨8, 0, none⟩ = some (.iface 94 (.pointer (some (a 8)))) := hE.g 8 (by omega) (by omega)
  have g9 : w.cell? ⟨9, 0, none⟩ = some (.iface 94 (.pointer (some (a 9)))) := hE.g 9 (by omega) (by omega)
  have g10 : w.cell? ⟨0, 0, none⟩ = some (.iface 94 (.pointer (some (a 10)))) := hE.g 10 (by omega) (by omega)
  have g11 : w.cell? ⟨10, 0, none⟩ = some (.iface 94 (.pointer (some (a 11)))) := hE.g 11 (by omega) (by omega)
  clear hE
  go_enter Tryd.func31, Tryd.ntmps31
  go_upto_region 2 with fail
  have hS : Below w.heap.size w (w.alloc (.cells (sentA a) 78)) := (Below.refl _ _).alloc (Nat.le_refl _) _
  clear g1 g2 g3 g4 g5 g6 g7 g8 g9 g10 g11
  show Code.wp _ _ _ _ (w.alloc (.cells (sentA a) 78))
  generalize (w.alloc (.cells (sentA a) 78)) = W0 at hS ⊢
  by_cases hc : c < 1
  · clear h
    go_wp2
    go_ret
    exact ⟨rfl, hS⟩
  · have h2 : 11 < c := by omega
    clear h
    go_wp2
    go_ret
    exact ⟨rfl, hS⟩
theorem law_any (a : Nat → Addr) (c : Int) (w : World) (hE : Errs a w) :
    Calls Tryd.prog 31 #[.int .i64 c] w fun e w' => e = .returned ((sentT c).val a) ∧ Below w.heap.size w w' := by
  by_cases h : 1 ≤ c ∧ c ≤ 11
  · obtain ⟨k, rfl⟩ : ∃ k : Nat, c = k := ⟨c.toNat, by omega⟩
    refine (law_in a k w hE (by omega) (by omega)).mono ?_
    rintro e w' ⟨rfl, hb⟩
    refine ⟨?_, hb⟩
    unfold sentT
    rw [if_pos h]
    simp [ET.val]
  · refine (law_out a c w hE (by omega)).mono ?_
    rintro e w' ⟨rfl, hb⟩
    refine ⟨?_, hb⟩
    unfold sentT
    rw [if_neg h]
    simp [ET.val]

theorem flt_in (a : Nat → Addr) (k : Nat) (w : World) (hE : Errs a w) (h0 : 1 ≤ k) (h1 : k ≤ 11) :
    Calls Tryd.prog 36 #[.int .i64 k] w fun e w' => e = .returned (.iface 94 (.pointer (some (a k)))) ∧ Below w.heap.size w w' := by
  have g1 : w.cell? ⟨2, 0, none⟩ = some (.iface 94 (.pointer (some (a 1)))) := hE.g 1 (by omega) (by omega)
  have g2 : w.cell? ⟨3, 0, none⟩ = some (.iface 94 (.pointer (some (a 2)))) := hE.g 2 (by omega) (by omega)
  have g3 : w.cell? ⟨1, 0, none⟩ = some (.iface 94 (.pointer (some (a 3)))) := hE.g 3 (by omega) (by omega)
  have g4 : w.cell? ⟨4, 0, none⟩ = some (.iface 94 (.pointer (some (a 4)))) := hE.g 4 (by omega) (by omega)
  have g5 : w.cell? ⟨5, 0, none⟩ = some (.iface 94 (.pointer (some (a 5)))) := hE.g 5 (by omega) (by omega)
  have g6 : w.cell? ⟨6, 0, none⟩ = some (.iface 94 (.pointer (some (a 6)))) := hE.g 6 (by omega) (by omega)
  have g7 : w.cell? ⟨7, 0, none⟩ = some (.iface 94 (.pointer (some (a 7)))) := hE.g 7 (by omega) (by omega)
  have g8 : w.cell? ⟨8, 0, none⟩ = some (.iface 94 (.pointer (some (a 8)))) := hE.g 8 (by omega) (by omega)
  have g9 : w.cell? ⟨9, 0, none⟩ = some (.iface 94 (.pointer (some (a 9)))) := hE.g 9 (by omega) (by omega)
  have g10 : w.cell? ⟨0, 0, none⟩ = some (.iface 94 (.pointer (some (a 10)))) := hE.g 10 (by omega) (by omega)
  have g11 : w.cell? ⟨10, 0, none⟩ = some (.iface 94 (.pointer (some (a 11)))) := hE.g 11 (by omega) (by omega)
  have hk0 : (1 : Int) ≤ (k : Int) := by omega
  have hk1 : (k : Int) ≤ 11 := by omega
  clear hE
  go_enter Tryd.func36, Tryd.ntmps36
  go_upto_region 2 with fail
  have hS : Below w.heap.size w (w.alloc (.cells (sentA a) 78)) := (Below.refl _ _).alloc (Nat.le_refl _) _
  have hC : (w.alloc (.cells (sentA a) 78)).cell? ⟨w.heap.size, k - 1, none⟩ = some (.iface 94 (.pointer (some (a k)))) := by
    rw [World.cell?_alloc_new, sentA_at a (k - 1) (by omega), show k - 1 + 1 = k by omega]
  obtain ⟨c, rfl⟩ : ∃ c, k = c + 1 := ⟨k - 1, by omega⟩
  simp only [Nat.add_sub_cancel] at hC
  clear g1 g2 g3 g4 g5 g6 g7 g8 g9 g10 g11
  show Code.wp _ _ _ _ (w.alloc (.cells (sentA a) 78))
  generalize (w.alloc (.cells (sentA a) 78)) = W0 at hS hC ⊢
  go_wp2
  go_ret
  exact ⟨rfl, hS⟩
theorem flt_out (a : Nat → Addr) (c : Int) (w : World) (hE : Errs a w) (h : c < 1 ∨ 11 < c) :
    Calls Tryd.prog 36 #[.int .i64 c] w fun e w' => e = .returned .nilIface ∧ Below w.heap.size w w' := by
  have g1 : w.cell? ⟨2, 0, none⟩ = some (.iface 94 (.pointer (some (a 1)))) := hE.g 1 (by omega) (by omega)
  have g2 : w.cell? ⟨3, 0, none⟩ = some (.iface 94 (.pointer (some (a 2)))) := hE.g 2 (by omega) (by omega)
  have g3 : w.cell? ⟨1, 0, none⟩ = some (.iface 94 (.pointer (some (a 3)))) := hE.g 3 (by omega) (by omega)
  have g4 : w.cell? ⟨4, 0, none⟩ = some (.iface 94 (.pointer (some (a 4)))) := hE.g 4 (by omega) (by omega)
  have g5 : w.cell? ⟨5, 0, none⟩ = some (.iface 94 (.pointer (some (a 5)))) := hE.g 5 (by omega) (by omega)
  have g6 : w.cell? ⟨6, 0, none⟩ = some (.iface 94 (.pointer (some (a 6)))) := hE.g 6 (by omega) (by omega)
  have g7 : w.cell? ⟨7, 0, none⟩ = some (.iface 94 (.pointer (some (a 7)))) := hE.g 7 (by omega) (by omega)
  have g8 : w.cell? ⟨8, 0, none⟩ = some (.iface 94 (.pointer (some (a 8)))) := hE.g 8 (by omega) (by omega)
  have g9 : w.cell? ⟨9, 0, none⟩ = some (.iface 94 (.pointer (some (a 9)))) := hE.g 9 (by omega) (by omega)
  have g10 : w.cell? ⟨0, 0, none⟩ = some (.iface 94 (.pointer (some (a 10)))) := hE.g 10 (by omega) (by omega)
  have g11 : w.cell? ⟨10, 0, none⟩ = some (.iface 94 (.pointer (some (a 11)))) := hE.g 11 (by omega) (by omega)
  clear hE
  go_enter Tryd.func36, Tryd.ntmps36
  go_upto_region 2 with fail
  have hS : Below w.heap.size w (w.alloc (.cells (sentA a) 78)) := (Below.refl _ _).alloc (Nat.le_refl _) _
  clear g1 g2 g3 g4 g5 g6 g7 g8 g9 g10 g11
  show Code.wp _ _ _ _ (w.alloc (.cells (sentA a) 78))
  generalize (w.alloc (.cells (sentA a) 78)) = W0 at hS ⊢
  by_cases hc : c < 1
  · clear h
    go_wp2
    go_ret
    exact ⟨rfl, hS⟩
  · have h2 : 11 < c := by omega
    clear h
    go_wp2
    go_ret
    exact ⟨rfl, hS⟩
theorem flt_any (a : Nat → Addr) (c : Int) (w : World) (hE : Errs a w) :
    Calls Tryd.prog 36 #[.int .i64 c] w fun e w' => e = .returned ((sentT c).val a) ∧ Below w.heap.size w w' := by
  by_cases h : 1 ≤ c ∧ c ≤ 11
  · obtain ⟨k, rfl⟩ : ∃ k : Nat, c = k := ⟨c.toNat, by omega⟩
    refine (flt_in a k w hE (by omega) (by omega)).mono ?_
    rintro e w' ⟨rfl, hb⟩
    refine ⟨?_, hb⟩
    unfold sentT
    rw [if_pos h]
    simp [ET.val]
  · refine (flt_out a c w hE (by omega)).mono ?_
    rintro e w' ⟨rfl, hb⟩
    refine ⟨?_, hb⟩
    unfold sentT
    rw [if_neg h]
    simp [ET.val]

theorem sentT_holds (a : Nat → Addr) (c : Int) (w : World) : Holds a w (sentT c) := by
  unfold sentT
  by_cases h : 1 ≤ c ∧ c ≤ 11
  · rw [if_pos h]; simp only [Holds]; omega
  · rw [if_neg h]; trivial
theorem eq_sentT (a : Nat → Addr) (j : Nat) (c : Int) (w : World) (hE : Errs a w) (hj0 : 1 ≤ j) (hj1 : j ≤ 11) :
    (binOp .eql 27 (.iface 94 (.pointer (some (a j)))) ((sentT c).val a)).run Tryd.prog w = .ok (.bool (decide ((j : Int) = c))) w := by
  unfold sentT
  by_cases h : 1 ≤ c ∧ c ≤ 11
  · rw [if_pos h]
    obtain ⟨k, rfl⟩ : ∃ k : Nat, c = k := ⟨c.toNat, by omega⟩
    rw [show ET.val a (.sent (k : Int).toNat) = .iface 94 (.pointer (some (a k))) by simp [ET.val], eq_at a w hE k j (by omega) (by omega) hj0 hj1]
    congr 2
    by_cases e : k = j
    · subst e; simp
    · have : ¬ ((j : Int) = k) := by omega
      simp [e, this]
  · rw [if_neg h]
    have e : decide ((j : Int) = c) = false := by rw [decide_eq_false_iff_not]; omega
    rw [e]
    exact nil_eq 94 _ w

theorem claim_is (a : Nat → Addr) (w : World) (hE : Errs a w) : ClaimIs a w := by
  intro p j c W hj0 hj1 hb hp
  have hc := law_any a c W (hE.below hb)
  have q0 : Hid (∀ w1, Below W.heap.size W w1 → (binOp .eql 27 (.iface 94 (.pointer (some (a j)))) ((sentT c).val a)).run Tryd.prog w1 = .ok (.bool (decide ((j : Int) = c))) w1) :=
    Lib.hid fun w1 h => eq_sentT a j c w1 ((hE.below hb).below h) hj0 hj1
  clear hE
  generalize (sentT c).val a = v at hc q0
  generalize decide ((j : Int) = c) = d at q0
  go_enter Tryd.func97, Tryd.ntmps97
  go_wp2_with (go_at_call 31; refine hc.mono ?_; rintro e w1 ⟨rfl, hb1⟩; have q1 := q0.out w1 hb1)
  go_ret
  exact ⟨rfl, hb1⟩

/-- errors.Is at the j-th. -/
theorem Is_any (a : Nat → Addr) (T : ET) (w : World) (hE : Errs a w) (hT : Holds a w T) (j : Nat) (hj0 : 1 ≤ j) (hj1 : j ≤ 11) :
    Calls Tryd.prog 37 #[T.val a, .iface 94 (.pointer (some (a j)))] w fun e w' => e = .returned (.bool (T.has j)) ∧ Below w.heap.size w w' := by
  by_cases h : T = .nil
  · subst h
    simp only [ET.val, ET.has]
    refine (is_nil (a j) w).mono ?_
    rintro e w' ⟨rfl, rfl⟩
    exact ⟨rfl, Below.refl _ _⟩
  · have hi := is_any a w hE (claim_is a w hE) j hj0 hj1 _ T w (Nat.le_refl _) (Below.refl _ _) hT
    obtain ⟨t, x, e⟩ := val_nil a T h
    rw [e] at hi ⊢
    have h8 := @run_callFunc_extern Tryd.prog 48 _ Extern.ReflectliteType.typeOf Tryd.func48 (by kernel_rfl) (by kernel_rfl) (by kernel_rfl) (by kernel_rfl)
    have h32 := @run_callFunc_extern Tryd.prog 104 _ compF Tryd.func104 (by kernel_rfl) (by kernel_rfl) (by kernel_rfl) (by kernel_rfl)
    have tT := isTypeOf
    have cT := isComparable
    have mR := isMethodComparable
    generalize T.has j = b at hi ⊢
    clear hE hT e h
    go_enter Tryd.func37, Tryd.ntmps37
    go_wp2_with (go_at_call 49; refine hi.mono ?_; rintro e w1 ⟨rfl, hb1⟩)
    go_ret
    exact ⟨rfl, hb1⟩
end Go.Proofs.YtfjgjhicinaolaaDoor
