/- value.Map (printed by genXD.py > XD2.tmpl). -/
import Derived.Test.YtcpkjmpbpmeclaaGreatDoorMaz
namespace Go.Proofs.YtcpkjmpbpmeclaaGreatDoor
open Go.RowKit
set_option maxRecDepth 100000
set_option linter.unusedVariables false
set_option linter.unusedSimpArgs false
set_option linter.unnecessarySimpa false

def zeroT : VT := .mk 0 0 false none 0 [] 0 0 ⟨#[]⟩ none 0 []
/-- Key number i of keys and values in turn. -/
def keyG (l : List VT) (i : Int) : VT := (l[2 * i.toNat]?).getD zeroT
/-- An error with its place. -/
def MErr (a : Nat → Addr) (k : Nat) (at_ : Int) (path : ByteArray) (w : World) (e : Ending) (w' : World) : Prop :=
 ∃ b, e = .returned (.tuple #[.agg zeroV, .iface 87 (.pointer (some ⟨b, 0, none⟩))]) ∧ w.heap.size ≤ b ∧ IsF a k at_ path b w'
/-- The map of keys and values in turn. -/
def MapV (l : List VT) (T : VT) : Prop := ∃ (A : Option Addr) (cap : Nat) (L R : List ELp), T = mapT A cap R ∧ 2 * L.length = l.length ∧ PairsOf l L ∧ SortedC pairC R ∧ R.Perm L
set_option maxHeartbeats 32000000 in
theorem mapW (a : Nat → Addr) (A : Option Addr) (c m : Nat) (l : List VT) (r1 r2 : Nat → Option (List Nat)) (dp : Nat → Nat) (Q : Ending → World → Prop) (w : World) (hlm : l.length = m) (hmb : m ≤ 1000000000) (hr : VRow w A l)
  (HK1 : Hid (∀ i (h : i < l.length) W, Below w.heap.size w W → Calls Tryz.prog 46 #[(l[i]).agg, .func (.func 125) #[] #[]] W fun e w' => e = .returned (walkR (r1 i)) ∧ Below W.heap.size W w'))
  (HK2 : Hid (∀ i (h : i < l.length) W, Below w.heap.size w W → Calls Tryz.prog 46 #[(l[i]).agg, .func (.func 127) #[] #[]] W fun e w' => e = .returned (walkR (r2 i)) ∧ Below W.heap.size W w'))
  (HDP : Hid (∀ i (h : i < l.length) W, Below w.heap.size w W → Calls Tryz.prog 38 #[(l[i]).agg] W fun e w' => e = .returned (.int .i64 (dp i : Nat)) ∧ Below W.heap.size W w'))
  (HCP : Hid (∀ i (h : i < l.length) W, Below w.heap.size w W → Calls Tryz.prog 32 #[(l[i]).agg] W fun e w' => ∃ T : VT, e = .returned T.agg ∧ Hid (Mine W.heap.size w' T ∧ T.c = (l[i]).c) ∧ Below W.heap.size W w'))
  (HE : Hid (∀ W, Below w.heap.size w W → W.cell? ⟨0, 0, none⟩ = some (.iface 330 (.pointer (some (a 1)))) ∧ W.cell? ⟨1, 0, none⟩ = some (.iface 330 (.pointer (some (a 5)))) ∧ W.cell? ⟨3, 0, none⟩ = some (.iface 330 (.pointer (some (a 3))))))
  (HIT : Hid (∀ n : Nat, n ≤ 1000000000 → ∀ W, Below w.heap.size w W → Calls Tryz.prog 126 #[.int .i64 (n : Nat)] W fun e w' => e = .returned (.string ⟨(decB n).toArray⟩) ∧ Below W.heap.size W w'))
  (HTW : Hid (∀ W v L, Below w.heap.size w W → Prs (w.heap.size + 1) W v l L → 2 * L.length = m → Calls Tryz.prog 129 #[v, .func (.func 128) #[] #[]] W fun e w' => ∃ f : Int, e = .returned (.int .i64 f) ∧ Hid (TwiceAt cmpV (keyG l) L.length f) ∧ Below W.heap.size W w'))
  (HSO : Hid (∀ W v L, Below w.heap.size w W → Prs (w.heap.size + 1) W v l L → 2 * L.length = m → Calls Tryz.prog 130 #[v, .func (.func 128) #[] #[]] W fun e w' => ∃ A' cap' R, e = .returned (.slice A' L.length cap') ∧ Hid ((∀ h : 0 < L.length, ∃ g, A' = some ⟨g, 0, none⟩ ∧ W.heap.size ≤ g ∧ ERowp w' g 0 R ∧ g < w'.heap.size) ∧ SortedC pairC R ∧ R.Perm L) ∧ Below W.heap.size W w'))
  (HPB : Hid (∀ i r, i < m → (r1 i = some r ∨ r2 i = some r) → (decB i).length ≤ 20 ∧ (pathB r).length ≤ 100000000000))
  (HQ1 : Hid (m % 2 = 1 → ∀ e w', MErr a 1 (m : Nat) ⟨#[]⟩ w e w' → Q e w'))
  (HQ2 : Hid (m % 2 = 0 → ∀ i r, i < m → (r1 i = some r ∧ (∀ j, j < i → r1 j = none ∧ r2 j = none)) → ∀ e w', MErr a 1 0 (strU (pathB (i :: r))) w e w' → Q e w'))
  (HQ6 : Hid (m % 2 = 0 → ∀ i r, i < m → (r1 i = none ∧ r2 i = some r ∧ (∀ j, j < i → r1 j = none ∧ r2 j = none)) → ∀ e w', MErr a 5 0 (strU (pathB (i :: r))) w e w' → Q e w'))
  (HQ3 : Hid (m % 2 = 0 → (∀ j, j < m → r1 j = none ∧ r2 j = none) → ∀ n : Nat, TwiceAt cmpV (keyG l) (m / 2) (n : Nat) → ∀ e w', MErr a 3 (n : Nat) ⟨#[]⟩ w e w' → Q e w'))
  (HQ4 : Hid (m % 2 = 0 → (∀ j, j < m → r1 j = none ∧ r2 j = none) → TwiceAt cmpV (keyG l) (m / 2) (-1) → (∃ j, j < m ∧ 128 ≤ dp j) → ∀ w', Q (.returned (.tuple #[.agg zeroV, .iface 330 (.pointer (some (a 5)))])) w'))
  (HQ5 : Hid (m % 2 = 0 → (∀ j, j < m → r1 j = none ∧ r2 j = none) → TwiceAt cmpV (keyG l) (m / 2) (-1) → (∀ j, j < m → dp j < 128) → ∀ T w', Mine w.heap.size w' T → MapV l T → Q (.returned (.tuple #[T.agg, .nilIface])) w')) :
  Calls Tryz.prog 35 #[.slice A m c] w fun e w' => Q e w' ∧ Below w.heap.size w w' := by
 have HR := Lib.hid hr
 have HL := Lib.hid hlm
 have hB0 : Hid (Below w.heap.size w (w.alloc (.cells zeroV 31))) := Lib.hid ((Below.refl _ w).alloc (Nat.le_refl _) _)
 clear hr hlm
 by_cases hodd : m % 2 = 1
 ·have hoddi : (m : Int) % 2 = 1 := by omega
  obtain ⟨e1, -, -⟩ := HE.out _ hB0.out
  go_enter Tryz.func35, Tryz.ntmps35
  go_upto_region 2 with fail
  have HS0 : Hid (SZ w (w.alloc (.cells zeroV 31))) := Lib.hid (SZ.new w)
  generalize (w.alloc (.cells zeroV 31)) = W0 at *
  refine wp_region_held_drew (S := fun X => SZ w X) (by kernel_rfl) HS0.out.drew (fun hH => ?_)
  have HBS : Hid (w.heap.size ≤ W0.heap.size) := Lib.hid HS0.out.b.size
  refine wpAnyH_take (i := 0) (oi := _) (v := ?_) rfl (by kernel_rfl) (by kernel_rfl) (by kernel_rfl) (fun _ _ _ h => h) (Or.inl ⟨by rfl, ?_⟩) hH ?_
  rotate_left 1
  ·intro Y hSY
   have e1 := (HE.out _ hSY.b).1
   go_simp
   with_reducible rfl
  try simp only [LY]
  refine wpAnyH_take (i := 1) (oi := _) (v := ?_) rfl (by kernel_rfl) (by kernel_rfl) (by kernel_rfl) (fun _ _ _ h => h) (Or.inl ⟨by rfl, ?_⟩) hH ?_
  rotate_left 1
  ·intro Y hSY
   have e1 := (HE.out _ hSY.b).1
   go_simp
   with_reducible rfl
  try simp only [LY]
  refine wpAnyH_take (i := 2) (oi := _) (v := ?_) rfl (by kernel_rfl) (by kernel_rfl) (by kernel_rfl) (fun _ _ _ h => h) (Or.inl ⟨by rfl, ?_⟩) hH ?_
  rotate_left 1
  ·intro Y hSY
   have e1 := (HE.out _ hSY.b).1
   go_simp
   with_reducible rfl
  try simp only [LY]
  refine wpAnyH_take (i := 3) (oi := _) (v := ?_) rfl (by kernel_rfl) (by kernel_rfl) (by kernel_rfl) (fun _ _ _ h => h) (Or.inl ⟨by rfl, ?_⟩) hH ?_
  rotate_left 1
  ·intro Y hSY
   have e1 := (HE.out _ hSY.b).1
   go_simp
   with_reducible rfl
  try simp only [LY]
  refine wpAnyH_take (i := 4) (oi := _) (v := ?_) rfl (by kernel_rfl) (by kernel_rfl) (by kernel_rfl) (fun _ _ _ h => h) (Or.inl ⟨by rfl, ?_⟩) hH ?_
  rotate_left 1
  ·intro Y hSY
   have e1 := (HE.out _ hSY.b).1
   go_simp
   with_reducible rfl
  try simp only [LY]
  refine wpAnyH_ready (rs := [5, 7]) (by kernel_rfl) (by simp) ?_
  refine AllReadyH.cons rfl (fun K hK => ?_) (AllReadyH.cons rfl (fun K hK => ?_) AllReadyH.nil)
  ·go_simp
   refine hK.out _ _ (hH.alloc _) (fun hH => ?_)
   clear hK K
   try simp only [LY]
   refine wpAnyH_take (i := 6) (oi := _) (v := ?_) rfl (by kernel_rfl) (by kernel_rfl) (by kernel_rfl) (fun _ _ _ h => h) (Or.inl ⟨by rfl, ?_⟩) hH ?_
   rotate_left 1
   ·intro Y hSY
    skip
    go_simp
    with_reducible rfl
   try simp only [LY]
   refine wpAnyH_ready (rs := [7]) (by kernel_rfl) (by simp) ?_
   refine AllReadyH.cons rfl (fun K hK => ?_) AllReadyH.nil
   ·refine step_zero rfl (.tmp 2) (.tmp 22) rfl rfl rfl hH ?_
    refine hK.out _ _ hH.store (fun hH => ?_)
    clear hK K
    try simp only [LY]
    refine wpAnyH_take (i := 8) (oi := _) (v := ?_) rfl (by kernel_rfl) (by kernel_rfl) (by kernel_rfl) (fun _ _ _ h => h) (Or.inl ⟨by rfl, ?_⟩) hH ?_
    rotate_left 1
    ·intro Y hSY
     skip
     go_simp
     with_reducible rfl
    try simp only [LY]
    refine wpAnyH_done (by kernel_rfl) ?_ _
    obtain ⟨X, hX, HF, HSZ⟩ : ∃ X, ((((W0).alloc (.cells #[.iface 330 (.pointer (some (a 1))), .int .i64 ((m : Nat) : Int), .string ⟨#[]⟩] 89)).drew).setCells w.heap.size 0 [.int .i8 0, .int .u64 0, .bool false, .slice none 0 0, .int .u64 0, .int .i8 0, .string ⟨#[]⟩, .slice none 0 0]) = X ∧ Hid (IsF a 1 (m : Nat) ⟨#[]⟩ W0.heap.size X) ∧ Hid (SZ w X) := ⟨_, rfl, Lib.hid (isF1 HS0.out), Lib.hid hH⟩
    rw [hX]
    clear hX hH
    have hLd := HSZ.out.load
    go_wp2
    refine bodyPost_ret (v := .tuple #[.agg zeroV, .iface 87 (.pointer (some ⟨W0.heap.size, 0, none⟩))]) ?_ rfl ⟨HQ1.out hodd _ _ ⟨_, rfl, HBS.out, HF.out⟩, HSZ.out.b⟩
    simp [results, Tryz.results35, hLd, asAddr, Act.put, size_setCells']
  ·refine step_zero rfl (.tmp 2) (.tmp 22) rfl rfl rfl hH ?_
   refine hK.out _ _ hH.store (fun hH => ?_)
   clear hK K
   try simp only [LY]
   refine wpAnyH_ready (rs := [5]) (by kernel_rfl) (by simp) ?_
   refine AllReadyH.cons rfl (fun K hK => ?_) AllReadyH.nil
   ·go_simp
    refine hK.out _ _ (hH.alloc _) (fun hH => ?_)
    clear hK K
    try simp only [LY]
    refine wpAnyH_take (i := 6) (oi := _) (v := ?_) rfl (by kernel_rfl) (by kernel_rfl) (by kernel_rfl) (fun _ _ _ h => h) (Or.inl ⟨by rfl, ?_⟩) hH ?_
    rotate_left 1
    ·intro Y hSY
     skip
     go_simp
     with_reducible rfl
    try simp only [LY]
    refine wpAnyH_take (i := 8) (oi := _) (v := ?_) rfl (by kernel_rfl) (by kernel_rfl) (by kernel_rfl) (fun _ _ _ h => h) (Or.inl ⟨by rfl, ?_⟩) hH ?_
    rotate_left 1
    ·intro Y hSY
     skip
     go_simp
     with_reducible rfl
    try simp only [LY]
    refine wpAnyH_done (by kernel_rfl) ?_ _
    obtain ⟨X, hX, HF, HSZ⟩ : ∃ X, (((W0).drew.setCells w.heap.size 0 [.int .i8 0, .int .u64 0, .bool false, .slice none 0 0, .int .u64 0, .int .i8 0, .string ⟨#[]⟩, .slice none 0 0]).alloc (.cells #[.iface 330 (.pointer (some (a 1))), .int .i64 ((m : Nat) : Int), .string ⟨#[]⟩] 89)) = X ∧ Hid (IsF a 1 (m : Nat) ⟨#[]⟩ W0.heap.size X) ∧ Hid (SZ w X) := ⟨_, rfl, Lib.hid (isF2), Lib.hid hH⟩
    rw [hX]
    clear hX hH
    have hLd := HSZ.out.load
    go_wp2
    refine bodyPost_ret (v := .tuple #[.agg zeroV, .iface 87 (.pointer (some ⟨W0.heap.size, 0, none⟩))]) ?_ rfl ⟨HQ1.out hodd _ _ ⟨_, rfl, HBS.out, HF.out⟩, HSZ.out.b⟩
    simp [results, Tryz.results35, hLd, asAddr, Act.put, size_setCells']
 ·have hev : m % 2 = 0 := by omega
  have hevi : (m : Int) % 2 = 0 := by omega
  have HEV := Lib.hid hev
  go_enter Tryz.func35, Tryz.ntmps35
  go_wp2
  have HS0 : Hid (SZ w (w.alloc (.cells zeroV 31))) := Lib.hid (SZ.new w)
  generalize (w.alloc (.cells zeroV 31)) = W0 at *
  clear hev hevi hodd hB0
  go_loopw [4, 31] (fun d t W => ∃ (bd : Bool) (i : Nat), d = .bool bd ∧ t = .int .i64 (i : Nat) ∧ i ≤ m ∧ Hid (DeepTo dp i bd) ∧ Hid (∀ j, j < i → r1 j = none ∧ r2 j = none) ∧ Hid (SZ w W)) (fun _ t _ => m - (intOf t).toNat)
  case atStart => exact ⟨false, 0, rfl, rfl, Nat.zero_le _, Lib.hid ⟨fun h => (by cases h), fun ⟨j, h, _⟩ => absurd h (Nat.not_lt_zero _)⟩, Lib.hid fun j h => absurd h (Nat.not_lt_zero _), HS0⟩
  case round =>
   obtain ⟨bd, i, rfl, rfl, him, HD, HN, HS⟩ := hrel
   by_cases hlt : i < m
   ·have hil : i < l.length := by rw [HL.out]; exact hlt
    have hi0 : (0 : Int) ≤ (i : Int) := by omega
    have hi1 : (i : Int) < (m : Int) := by omega
    obtain ⟨b, off, xk, xn, xg, xmA, xml, xmc, xb, xe, xt, xA, xl, xc, rfl, q0, q1, q2, q3, q4, q5, q6, q7, hC⟩ := (HR.out.below HS.out.b).kid hil (C := fun u => (∀ W, Below w.heap.size w W → Calls Tryz.prog 46 #[u, .func (.func 125) #[] #[]] W fun e w' => e = .returned (walkR (r1 i)) ∧ Below W.heap.size W w') ∧
     (∀ W, Below w.heap.size w W → Calls Tryz.prog 46 #[u, .func (.func 127) #[] #[]] W fun e w' => e = .returned (walkR (r2 i)) ∧ Below W.heap.size W w') ∧ (∀ W, Below w.heap.size w W → Calls Tryz.prog 38 #[u] W fun e w' => e = .returned (.int .i64 (dp i : Nat)) ∧ Below W.heap.size W w')) ⟨HK1.out i hil, HK2.out i hil, HDP.out i hil⟩
    have HC := Lib.hid hC
    clear hC hil
    go_upto_region 7 with fail
    have HS1 : Hid (SZ w (wr.alloc (.cells #[.int .i8 xk, .int .u64 xn, .bool xg, .slice xmA xml xmc, .int .u64 xb, .int .i8 xe, .string xt, .slice xA xl xc] 31))) := Lib.hid (HS.out.alloc _)
    have HP : Hid ((wr.alloc (.cells #[.int .i8 xk, .int .u64 xn, .bool xg, .slice xmA xml xmc, .int .u64 xb, .int .i8 xe, .string xt, .slice xA xl xc] 31)).heap[wr.heap.size]? = some (.cells #[.int .i8 xk, .int .u64 xn, .bool xg, .slice xmA xml xmc, .int .u64 xb, .int .i8 xe, .string xt, .slice xA xl xc] 31 (0, 0))) := Lib.hid (heap_alloc_new _ _)
    generalize (wr.alloc (.cells #[.int .i8 xk, .int .u64 xn, .bool xg, .slice xmA xml xmc, .int .u64 xb, .int .i8 xe, .string xt, .slice xA xl xc] 31)) = W1 at *
    generalize wr.heap.size = p6 at *
    obtain ⟨⟨c0, c1, c2, c3, c4, c5, c6, c7⟩, -⟩ := blk8 HP.out
    clear q0 q1 q2 q3 q4 q5 q6 q7
    obtain ⟨o1, ho1⟩ : ∃ o, r1 i = o := ⟨_, rfl⟩
    obtain ⟨o2, ho2⟩ : ∃ o, r2 i = o := ⟨_, rfl⟩
    have HO1 := Lib.hid ho1
    have HO2 := Lib.hid ho2
    rw [ho1, ho2] at HC
    clear ho1 ho2
    cases o1 with
    | some r =>
     have hpath := path_cons i r
     obtain ⟨hp1, hp2⟩ := HPB.out i r hlt (.inl HO1.out)
     have hl1 : ¬ 9223372036854775807 < 1 + (decB i).length := by omega
     have hl2 : ¬ 9223372036854775807 < 1 + (decB i).length + (strU (pathB r)).size := by rw [strU_size]; omega
     clear hp1 hp2
     have HQ : Hid (∀ e w', MErr a 1 0 (strU (pathB (i :: r))) w e w' → Q e w') := Lib.hid (HQ2.out HEV.out i r hlt ⟨HO1.out, HN.out⟩)
     go_upto_region 9 with (go_at_call 46; go_must (refine (HC.out.1 _ HS1.out.b).mono ?_); go_must (rintro e w1 ⟨rfl, hb1⟩; have HS2 := Lib.hid (HS1.out.call hb1); unfold walkR; clear hb1))
     refine wp_region_held_drew (S := fun X => SZ w X) (by kernel_rfl) HS2.out.drew (fun hH => ?_)
     refine wpAnyH_take (i := 0) (oi := _) (v := ?_) rfl (by kernel_rfl) (by kernel_rfl) (by kernel_rfl) (fun _ _ _ h => h) (Or.inl ⟨by rfl, ?_⟩) hH ?_
     rotate_left 1
     ·intro Y hSY
      have e1 := (HE.out _ hSY.b).1
      go_simp
      with_reducible rfl
     try simp only [LY]
     refine wpAnyH_take (i := 1) (oi := _) (v := ?_) rfl (by kernel_rfl) (by kernel_rfl) (by kernel_rfl) (fun _ _ _ h => h) (Or.inl ⟨by rfl, ?_⟩) hH ?_
     rotate_left 1
     ·intro Y hSY
      have e1 := (HE.out _ hSY.b).1
      go_simp
      with_reducible rfl
     try simp only [LY]
     refine wpAnyH_take (i := 2) (oi := _) (v := ?_) rfl (by kernel_rfl) (by kernel_rfl) (by kernel_rfl) (fun _ _ _ h => h) (Or.inl ⟨by rfl, ?_⟩) hH ?_
     rotate_left 1
     ·intro Y hSY
      have e1 := (HE.out _ hSY.b).1
      go_simp
      with_reducible rfl
     try simp only [LY]
     refine wpAnyH_take (i := 5) (oi := _) (v := ?_) rfl (by kernel_rfl) (by kernel_rfl) (by kernel_rfl) (fun _ _ _ h => h) (Or.inl ⟨by rfl, ?_⟩) hH ?_
     rotate_left 1
     ·intro Y hSY
      have e1 := (HE.out _ hSY.b).1
      go_simp
      with_reducible rfl
     try simp only [LY]
     refine wpAnyH_ready (rs := [3]) (by kernel_rfl) (by simp) ?_
     refine AllReadyH.cons rfl (fun K hK => ?_) AllReadyH.nil
     ·go_simp
      go_at_call 126
      refine (HIT.out i (by omega) _ hH.b).mono ?_
      rintro e w9 ⟨rfl, hb9⟩
      have HB1 := Lib.hid hb9
      clear hb9
      go_wp2_with fail
      refine hK.out _ _ (hH.call HB1.out) (fun hH => ?_)
      clear hK K
      try simp only [LY]
      have HSW := Lib.hid hH
      refine wpAnyH_take (i := 4) (oi := _) (v := ?_) rfl (by kernel_rfl) (by kernel_rfl) (by kernel_rfl) (fun _ _ _ h => h) (Or.inl ⟨by rfl, ?_⟩) hH ?_
      rotate_left 1
      ·intro Y hSY
       skip
       go_simp
       with_reducible rfl
      try simp only [LY]
      refine wpAnyH_take (i := 6) (oi := _) (v := ?_) rfl (by kernel_rfl) (by kernel_rfl) (by kernel_rfl) (fun _ _ _ h => h) (Or.inl ⟨by rfl, ?_⟩) hH ?_
      rotate_left 1
      ·intro Y hSY
       skip
       go_simp
       with_reducible rfl
      try simp only [LY]
      refine wpAnyH_take (i := 7) (oi := _) (v := ?_) rfl (by kernel_rfl) (by kernel_rfl) (by kernel_rfl) (fun _ _ _ h => h) (Or.inl ⟨by rfl, ?_⟩) hH ?_
      rotate_left 1
      ·intro Y hSY
       skip
       go_simp
       with_reducible rfl
      try simp only [LY]
      refine wpAnyH_ready (rs := [8, 10]) (by kernel_rfl) (by simp) ?_
      refine AllReadyH.cons rfl (fun K hK => ?_) (AllReadyH.cons rfl (fun K hK => ?_) AllReadyH.nil)
      ·go_simp
       refine hK.out _ _ (hH.alloc _) (fun hH => ?_)
       clear hK K
       try simp only [LY]
       refine wpAnyH_take (i := 9) (oi := _) (v := ?_) rfl (by kernel_rfl) (by kernel_rfl) (by kernel_rfl) (fun _ _ _ h => h) (Or.inl ⟨by rfl, ?_⟩) hH ?_
       rotate_left 1
       ·intro Y hSY
        skip
        go_simp
        with_reducible rfl
       try simp only [LY]
       refine wpAnyH_ready (rs := [10]) (by kernel_rfl) (by simp) ?_
       refine AllReadyH.cons rfl (fun K hK => ?_) AllReadyH.nil
       ·refine step_zero rfl (.tmp 2) (.tmp 42) rfl rfl rfl hH ?_
        refine hK.out _ _ hH.store (fun hH => ?_)
        clear hK K
        try simp only [LY]
        refine wpAnyH_take (i := 11) (oi := _) (v := ?_) rfl (by kernel_rfl) (by kernel_rfl) (by kernel_rfl) (fun _ _ _ h => h) (Or.inl ⟨by rfl, ?_⟩) hH ?_
        rotate_left 1
        ·intro Y hSY
         skip
         go_simp
         with_reducible rfl
        try simp only [LY]
        refine wpAnyH_done (by kernel_rfl) ?_ _
        obtain ⟨X, hX, HF, HSZ⟩ : ∃ X, (((w9).alloc (.cells #[.iface 330 (.pointer (some (a 1))), .int .i64 0, .string (strU (pathB (i :: r)))] 89)).setCells w.heap.size 0 [.int .i8 0, .int .u64 0, .bool false, .slice none 0 0, .int .u64 0, .int .i8 0, .string ⟨#[]⟩, .slice none 0 0]) = X ∧ Hid (IsF a 1 0 (strU (pathB (i :: r))) w9.heap.size X) ∧ Hid (SZ w X) := ⟨_, rfl, Lib.hid (isF1n HSW.out), Lib.hid hH⟩
        rw [hX]
        clear hX hH
        have hLd := HSZ.out.load
        go_wp2
        refine bodyPost_ret (v := .tuple #[.agg zeroV, .iface 87 (.pointer (some ⟨w9.heap.size, 0, none⟩))]) ?_ rfl ⟨HQ.out _ _ ⟨_, rfl, HSW.out.b.size, HF.out⟩, HSZ.out.b⟩
        simp [results, Tryz.results35, hLd, asAddr, Act.put, size_setCells']
      ·refine step_zero rfl (.tmp 2) (.tmp 42) rfl rfl rfl hH ?_
       refine hK.out _ _ hH.store (fun hH => ?_)
       clear hK K
       try simp only [LY]
       refine wpAnyH_ready (rs := [8]) (by kernel_rfl) (by simp) ?_
       refine AllReadyH.cons rfl (fun K hK => ?_) AllReadyH.nil
       ·go_simp
        refine hK.out _ _ (hH.alloc _) (fun hH => ?_)
        clear hK K
        try simp only [LY]
        refine wpAnyH_take (i := 9) (oi := _) (v := ?_) rfl (by kernel_rfl) (by kernel_rfl) (by kernel_rfl) (fun _ _ _ h => h) (Or.inl ⟨by rfl, ?_⟩) hH ?_
        rotate_left 1
        ·intro Y hSY
         skip
         go_simp
         with_reducible rfl
        try simp only [LY]
        refine wpAnyH_take (i := 11) (oi := _) (v := ?_) rfl (by kernel_rfl) (by kernel_rfl) (by kernel_rfl) (fun _ _ _ h => h) (Or.inl ⟨by rfl, ?_⟩) hH ?_
        rotate_left 1
        ·intro Y hSY
         skip
         go_simp
         with_reducible rfl
        try simp only [LY]
        refine wpAnyH_done (by kernel_rfl) ?_ _
        obtain ⟨X, hX, HF, HSZ⟩ : ∃ X, (((w9).setCells w.heap.size 0 [.int .i8 0, .int .u64 0, .bool false, .slice none 0 0, .int .u64 0, .int .i8 0, .string ⟨#[]⟩, .slice none 0 0]).alloc (.cells #[.iface 330 (.pointer (some (a 1))), .int .i64 0, .string (strU (pathB (i :: r)))] 89)) = X ∧ Hid (IsF a 1 0 (strU (pathB (i :: r))) w9.heap.size X) ∧ Hid (SZ w X) := ⟨_, rfl, Lib.hid (isF2n), Lib.hid hH⟩
        rw [hX]
        clear hX hH
        have hLd := HSZ.out.load
        go_wp2
        refine bodyPost_ret (v := .tuple #[.agg zeroV, .iface 87 (.pointer (some ⟨w9.heap.size, 0, none⟩))]) ?_ rfl ⟨HQ.out _ _ ⟨_, rfl, HSW.out.b.size, HF.out⟩, HSZ.out.b⟩
        simp [results, Tryz.results35, hLd, asAddr, Act.put, size_setCells']
    | none =>
     cases o2 with
     | some r =>
      have hpath := path_cons i r
      obtain ⟨hp1, hp2⟩ := HPB.out i r hlt (.inr HO2.out)
      have hl1 : ¬ 9223372036854775807 < 1 + (decB i).length := by omega
      have hl2 : ¬ 9223372036854775807 < 1 + (decB i).length + (strU (pathB r)).size := by rw [strU_size]; omega
      clear hp1 hp2
      have HQ : Hid (∀ e w', MErr a 5 0 (strU (pathB (i :: r))) w e w' → Q e w') := Lib.hid (HQ6.out HEV.out i r hlt ⟨HO1.out, HO2.out, HN.out⟩)
      go_upto_region 12 with (go_at_call 46; go_must (first
       | (with_reducible refine (HC.out.1 _ HS1.out.b).mono ?_; rintro e w1 ⟨rfl, hb1⟩; have HS2 := Lib.hid (HS1.out.call hb1); have c0 := keep1 hb1 c0; have c1 := keep1 hb1 c1; have c2 := keep1 hb1 c2; have c3 := keep1 hb1 c3; have c4 := keep1 hb1 c4; have c5 := keep1 hb1 c5; have c6 := keep1 hb1 c6; have c7 := keep1 hb1 c7; unfold walkR; clear hb1)
       | (with_reducible refine (HC.out.2.1 _ HS2.out.b).mono ?_; rintro e w2 ⟨rfl, hb2⟩; have HS3 := Lib.hid (HS2.out.call hb2); unfold walkR; clear hb2)))
      refine wp_region_held_drew (S := fun X => SZ w X) (by kernel_rfl) HS3.out.drew (fun hH => ?_)
      refine wpAnyH_take (i := 0) (oi := _) (v := ?_) rfl (by kernel_rfl) (by kernel_rfl) (by kernel_rfl) (fun _ _ _ h => h) (Or.inl ⟨by rfl, ?_⟩) hH ?_
      rotate_left 1
      ·intro Y hSY
       have e1 := (HE.out _ hSY.b).2.1
       go_simp
       with_reducible rfl
      try simp only [LY]
      refine wpAnyH_take (i := 1) (oi := _) (v := ?_) rfl (by kernel_rfl) (by kernel_rfl) (by kernel_rfl) (fun _ _ _ h => h) (Or.inl ⟨by rfl, ?_⟩) hH ?_
      rotate_left 1
      ·intro Y hSY
       have e1 := (HE.out _ hSY.b).2.1
       go_simp
       with_reducible rfl
      try simp only [LY]
      refine wpAnyH_take (i := 2) (oi := _) (v := ?_) rfl (by kernel_rfl) (by kernel_rfl) (by kernel_rfl) (fun _ _ _ h => h) (Or.inl ⟨by rfl, ?_⟩) hH ?_
      rotate_left 1
      ·intro Y hSY
       have e1 := (HE.out _ hSY.b).2.1
       go_simp
       with_reducible rfl
      try simp only [LY]
      refine wpAnyH_take (i := 5) (oi := _) (v := ?_) rfl (by kernel_rfl) (by kernel_rfl) (by kernel_rfl) (fun _ _ _ h => h) (Or.inl ⟨by rfl, ?_⟩) hH ?_
      rotate_left 1
      ·intro Y hSY
       have e1 := (HE.out _ hSY.b).2.1
       go_simp
       with_reducible rfl
      try simp only [LY]
      refine wpAnyH_ready (rs := [3]) (by kernel_rfl) (by simp) ?_
      refine AllReadyH.cons rfl (fun K hK => ?_) AllReadyH.nil
      ·go_simp
       go_at_call 126
       refine (HIT.out i (by omega) _ hH.b).mono ?_
       rintro e w9 ⟨rfl, hb9⟩
       have HB1 := Lib.hid hb9
       clear hb9
       go_wp2_with fail
       refine hK.out _ _ (hH.call HB1.out) (fun hH => ?_)
       clear hK K
       try simp only [LY]
       have HSW := Lib.hid hH
       refine wpAnyH_take (i := 4) (oi := _) (v := ?_) rfl (by kernel_rfl) (by kernel_rfl) (by kernel_rfl) (fun _ _ _ h => h) (Or.inl ⟨by rfl, ?_⟩) hH ?_
       rotate_left 1
       ·intro Y hSY
        skip
        go_simp
        with_reducible rfl
       try simp only [LY]
       refine wpAnyH_take (i := 6) (oi := _) (v := ?_) rfl (by kernel_rfl) (by kernel_rfl) (by kernel_rfl) (fun _ _ _ h => h) (Or.inl ⟨by rfl, ?_⟩) hH ?_
       rotate_left 1
       ·intro Y hSY
        skip
        go_simp
        with_reducible rfl
       try simp only [LY]
       refine wpAnyH_take (i := 7) (oi := _) (v := ?_) rfl (by kernel_rfl) (by kernel_rfl) (by kernel_rfl) (fun _ _ _ h => h) (Or.inl ⟨by rfl, ?_⟩) hH ?_
       rotate_left 1
       ·intro Y hSY
        skip
        go_simp
        with_reducible rfl
       try simp only [LY]
       refine wpAnyH_ready (rs := [8, 10]) (by kernel_rfl) (by simp) ?_
       refine AllReadyH.cons rfl (fun K hK => ?_) (AllReadyH.cons rfl (fun K hK => ?_) AllReadyH.nil)
       ·go_simp
        refine hK.out _ _ (hH.alloc _) (fun hH => ?_)
        clear hK K
        try simp only [LY]
        refine wpAnyH_take (i := 9) (oi := _) (v := ?_) rfl (by kernel_rfl) (by kernel_rfl) (by kernel_rfl) (fun _ _ _ h => h) (Or.inl ⟨by rfl, ?_⟩) hH ?_
        rotate_left 1
        ·intro Y hSY
         skip
         go_simp
         with_reducible rfl
        try simp only [LY]
        refine wpAnyH_ready (rs := [10]) (by kernel_rfl) (by simp) ?_
        refine AllReadyH.cons rfl (fun K hK => ?_) AllReadyH.nil
        ·refine step_zero rfl (.tmp 2) (.tmp 58) rfl rfl rfl hH ?_
         refine hK.out _ _ hH.store (fun hH => ?_)
         clear hK K
         try simp only [LY]
         refine wpAnyH_take (i := 11) (oi := _) (v := ?_) rfl (by kernel_rfl) (by kernel_rfl) (by kernel_rfl) (fun _ _ _ h => h) (Or.inl ⟨by rfl, ?_⟩) hH ?_
         rotate_left 1
         ·intro Y hSY
          skip
          go_simp
          with_reducible rfl
         try simp only [LY]
         refine wpAnyH_done (by kernel_rfl) ?_ _
         obtain ⟨X, hX, HF, HSZ⟩ : ∃ X, (((w9).alloc (.cells #[.iface 330 (.pointer (some (a 5))), .int .i64 0, .string (strU (pathB (i :: r)))] 89)).setCells w.heap.size 0 [.int .i8 0, .int .u64 0, .bool false, .slice none 0 0, .int .u64 0, .int .i8 0, .string ⟨#[]⟩, .slice none 0 0]) = X ∧ Hid (IsF a 5 0 (strU (pathB (i :: r))) w9.heap.size X) ∧ Hid (SZ w X) := ⟨_, rfl, Lib.hid (isF1n HSW.out), Lib.hid hH⟩
         rw [hX]
         clear hX hH
         have hLd := HSZ.out.load
         go_wp2
         refine bodyPost_ret (v := .tuple #[.agg zeroV, .iface 87 (.pointer (some ⟨w9.heap.size, 0, none⟩))]) ?_ rfl ⟨HQ.out _ _ ⟨_, rfl, HSW.out.b.size, HF.out⟩, HSZ.out.b⟩
         simp [results, Tryz.results35, hLd, asAddr, Act.put, size_setCells']
       ·refine step_zero rfl (.tmp 2) (.tmp 58) rfl rfl rfl hH ?_
        refine hK.out _ _ hH.store (fun hH => ?_)
        clear hK K
        try simp only [LY]
        refine wpAnyH_ready (rs := [8]) (by kernel_rfl) (by simp) ?_
        refine AllReadyH.cons rfl (fun K hK => ?_) AllReadyH.nil
        ·go_simp
         refine hK.out _ _ (hH.alloc _) (fun hH => ?_)
         clear hK K
         try simp only [LY]
         refine wpAnyH_take (i := 9) (oi := _) (v := ?_) rfl (by kernel_rfl) (by kernel_rfl) (by kernel_rfl) (fun _ _ _ h => h) (Or.inl ⟨by rfl, ?_⟩) hH ?_
         rotate_left 1
         ·intro Y hSY
          skip
          go_simp
          with_reducible rfl
         try simp only [LY]
         refine wpAnyH_take (i := 11) (oi := _) (v := ?_) rfl (by kernel_rfl) (by kernel_rfl) (by kernel_rfl) (fun _ _ _ h => h) (Or.inl ⟨by rfl, ?_⟩) hH ?_
         rotate_left 1
         ·intro Y hSY
          skip
          go_simp
          with_reducible rfl
         try simp only [LY]
         refine wpAnyH_done (by kernel_rfl) ?_ _
         obtain ⟨X, hX, HF, HSZ⟩ : ∃ X, (((w9).setCells w.heap.size 0 [.int .i8 0, .int .u64 0, .bool false, .slice none 0 0, .int .u64 0, .int .i8 0, .string ⟨#[]⟩, .slice none 0 0]).alloc (.cells #[.iface 330 (.pointer (some (a 5))), .int .i64 0, .string (strU (pathB (i :: r)))] 89)) = X ∧ Hid (IsF a 5 0 (strU (pathB (i :: r))) w9.heap.size X) ∧ Hid (SZ w X) := ⟨_, rfl, Lib.hid (isF2n), Lib.hid hH⟩
         rw [hX]
         clear hX hH
         have hLd := HSZ.out.load
         go_wp2
         refine bodyPost_ret (v := .tuple #[.agg zeroV, .iface 87 (.pointer (some ⟨w9.heap.size, 0, none⟩))]) ?_ rfl ⟨HQ.out _ _ ⟨_, rfl, HSW.out.b.size, HF.out⟩, HSZ.out.b⟩
         simp [results, Tryz.results35, hLd, asAddr, Act.put, size_setCells']
     | none =>
      have HN2 : Hid (∀ j, j < i + 1 → r1 j = none ∧ r2 j = none) := Lib.hid fun j hj => by
       by_cases e : j = i
       ·subst e; exact ⟨HO1.out, HO2.out⟩
       ·exact HN.out j (by omega)
      cases bd with
      | true =>
       have HD2 : Hid (DeepTo dp (i + 1) true) := Lib.hid ⟨fun _ => (by obtain ⟨j, h1, h2⟩ := HD.out.1 rfl; exact ⟨j, by omega, h2⟩), fun _ => rfl⟩
       go_wp2_with (go_at_call 46; go_must (first
        | (with_reducible refine (HC.out.1 _ HS1.out.b).mono ?_; rintro e w1 ⟨rfl, hb1⟩; have HS2 := Lib.hid (HS1.out.call hb1); have c0 := keep1 hb1 c0; have c1 := keep1 hb1 c1; have c2 := keep1 hb1 c2; have c3 := keep1 hb1 c3; have c4 := keep1 hb1 c4; have c5 := keep1 hb1 c5; have c6 := keep1 hb1 c6; have c7 := keep1 hb1 c7; unfold walkR; clear hb1)
        | (with_reducible refine (HC.out.2.1 _ HS2.out.b).mono ?_; rintro e w2 ⟨rfl, hb2⟩; have HS3 := Lib.hid (HS2.out.call hb2); have c0 := keep1 hb2 c0; have c1 := keep1 hb2 c1; have c2 := keep1 hb2 c2; have c3 := keep1 hb2 c3; have c4 := keep1 hb2 c4; have c5 := keep1 hb2 c5; have c6 := keep1 hb2 c6; have c7 := keep1 hb2 c7; unfold walkR; clear hb2)))
       go_roundw
       case rel => exact ⟨true, i + 1, rfl, by go_num, hlt, HD2, HN2, HS3⟩
       case measure => simp [intOf]; omega
      | false =>
       obtain ⟨dd, hdd⟩ : ∃ d, dp i = d := ⟨_, rfl⟩
       have HDD := Lib.hid hdd
       rw [hdd] at HC
       clear hdd
       by_cases hdp : 128 ≤ dd
       ·have hdi : (128 : Int) ≤ (dd : Int) := by omega
        have HD2 : Hid (DeepTo dp (i + 1) true) := Lib.hid ⟨fun _ => ⟨i, by omega, by rw [HDD.out]; exact hdp⟩, fun _ => rfl⟩
        go_wp2_with (first
         | (go_at_call 46; go_must (first
          | (with_reducible refine (HC.out.1 _ HS1.out.b).mono ?_; rintro e w1 ⟨rfl, hb1⟩; have HS2 := Lib.hid (HS1.out.call hb1); have c0 := keep1 hb1 c0; have c1 := keep1 hb1 c1; have c2 := keep1 hb1 c2; have c3 := keep1 hb1 c3; have c4 := keep1 hb1 c4; have c5 := keep1 hb1 c5; have c6 := keep1 hb1 c6; have c7 := keep1 hb1 c7; unfold walkR; clear hb1)
          | (with_reducible refine (HC.out.2.1 _ HS2.out.b).mono ?_; rintro e w2 ⟨rfl, hb2⟩; have HS3 := Lib.hid (HS2.out.call hb2); have c0 := keep1 hb2 c0; have c1 := keep1 hb2 c1; have c2 := keep1 hb2 c2; have c3 := keep1 hb2 c3; have c4 := keep1 hb2 c4; have c5 := keep1 hb2 c5; have c6 := keep1 hb2 c6; have c7 := keep1 hb2 c7; unfold walkR; clear hb2)))
         | (go_at_call 38; go_must (with_reducible refine (HC.out.2.2 _ HS3.out.b).mono ?_; rintro e w3 ⟨rfl, hb3⟩; have HS4 := Lib.hid (HS3.out.call hb3); clear hb3)))
        go_roundw
        case rel => exact ⟨true, i + 1, rfl, by go_num, hlt, HD2, HN2, HS4⟩
        case measure => simp [intOf]; omega
       ·have hdi : decide ((128 : Int) ≤ (dd : Int)) = false := decide_eq_false (by omega)
        have HD2 : Hid (DeepTo dp (i + 1) false) := Lib.hid ⟨fun h => (by cases h), fun ⟨j, h1, h2⟩ => (by
         by_cases e : j = i
         ·subst e; rw [HDD.out] at h2; exact absurd h2 hdp
         ·exact absurd (HD.out.2 ⟨j, by omega, h2⟩) (by decide))⟩
        go_wp2_with (first
         | (go_at_call 46; go_must (first
          | (with_reducible refine (HC.out.1 _ HS1.out.b).mono ?_; rintro e w1 ⟨rfl, hb1⟩; have HS2 := Lib.hid (HS1.out.call hb1); have c0 := keep1 hb1 c0; have c1 := keep1 hb1 c1; have c2 := keep1 hb1 c2; have c3 := keep1 hb1 c3; have c4 := keep1 hb1 c4; have c5 := keep1 hb1 c5; have c6 := keep1 hb1 c6; have c7 := keep1 hb1 c7; unfold walkR; clear hb1)
          | (with_reducible refine (HC.out.2.1 _ HS2.out.b).mono ?_; rintro e w2 ⟨rfl, hb2⟩; have HS3 := Lib.hid (HS2.out.call hb2); have c0 := keep1 hb2 c0; have c1 := keep1 hb2 c1; have c2 := keep1 hb2 c2; have c3 := keep1 hb2 c3; have c4 := keep1 hb2 c4; have c5 := keep1 hb2 c5; have c6 := keep1 hb2 c6; have c7 := keep1 hb2 c7; unfold walkR; clear hb2)))
         | (go_at_call 38; go_must (with_reducible refine (HC.out.2.2 _ HS3.out.b).mono ?_; rintro e w3 ⟨rfl, hb3⟩; have HS4 := Lib.hid (HS3.out.call hb3); clear hb3)))
        go_roundw
        case rel => exact ⟨false, i + 1, rfl, by go_num, hlt, HD2, HN2, HS4⟩
        case measure => simp [intOf]; omega
   ·obtain rfl : m = i := by omega
    obtain ⟨Wa, rfl⟩ : ∃ X, X = wr := ⟨_, rfl⟩
    go_wp2
    go_loopw [11, 12] (fun v t W => ∃ (L : List ELp) (k : Nat), t = .int .i64 (2 * (k : Int)) ∧ 2 * k ≤ m ∧ Hid (L.length = k) ∧ Hid (SZ w W) ∧ Hid (Prs (w.heap.size + 1) W v l L)) (fun _ t _ => m - (intOf t).toNat)
    case atStart => exact ⟨[], 0, rfl, Nat.zero_le _, Lib.hid rfl, HS, Lib.hid (Prs.nil _ _ _)⟩
    case round =>
     obtain ⟨L, k, rfl, hkm, HK, HS, HPR⟩ := hrel
     by_cases hlt : 2 * k < m
     ·have hl2 : 2 * k + 1 < l.length := by have := HEV.out; rw [HL.out]; omega
      have hk0 : (0 : Int) ≤ 2 * (k : Int) := by omega
      have hk1 : 2 * (k : Int) < (m : Int) := by omega
      have hk2 : (0 : Int) ≤ 2 * (k : Int) + 1 := by omega
      have hk3 : 2 * (k : Int) + 1 < (m : Int) := by have := HL.out; omega
      have hkw : IntKind.i64.wrap (2 * (k : Int) + 1) = 2 * (k : Int) + 1 := wraps_i64 _ (by omega) (by omega)
      have hkw2 : IntKind.i64.wrap (k : Int) = (k : Int) := wraps_i64 _ (by omega) (by omega)
      have ht0 : (2 * (k : Int)).toNat = 2 * k := by omega
      have ht1 : (2 * (k : Int) + 1).toNat = 2 * k + 1 := by omega
      have hq2 : Int.tdiv (2 * (k : Int)) 2 = (k : Int) := by rw [Int.mul_comm]; exact Int.mul_tdiv_cancel _ (by decide)
      obtain ⟨b, off, rfl, -⟩ := HR.out.at (2 * k) (by omega)
      obtain ⟨Yp, hYp⟩ : ∃ Y, (l[2 * k]'(by omega)).agg = .agg Y := ⟨_, rfl⟩
      obtain ⟨Yq, hYq⟩ : ∃ Y, (l[2 * k + 1]'hl2).agg = .agg Y := ⟨_, rfl⟩
      have hlp : ∀ X, SZ w X → Sem.run Tryz.prog (loadVar 31 ⟨b, off + 2 * k * 8, none⟩) X = .ok (.agg Yp) X := fun X hX => by rw [← hYp]; exact val_load HR.out hX.b _
      have hlq : ∀ X, SZ w X → Sem.run Tryz.prog (loadVar 31 ⟨b, off + (2 * k + 1) * 8, none⟩) X = .ok (.agg Yq) X := fun X hX => by rw [← hYq]; exact val_load HR.out hX.b _
      have hcp := HCP.out (2 * k) (by omega)
      have hcq := HCP.out (2 * k + 1) hl2
      rw [hYp] at hcp
      rw [hYq] at hcq
      have HCQ := Lib.hid (And.intro hcp hcq)
      clear hcp hcq hYp hYq
      go_upto_region 19 with fail
      refine wp_region_held_drew (S := fun X => SZ w X) (by kernel_rfl) HS.out.drew (fun hH => ?_)
      refine wpAnyH_take (i := 0) (oi := _) (v := ?_) rfl (by kernel_rfl) (by kernel_rfl) (by kernel_rfl) (fun _ _ _ h => h) (Or.inl ⟨by rfl, ?_⟩) hH ?_
      rotate_left 1
      ·intro Y hSY
       skip
       go_simp
       with_reducible rfl
      try simp only [LY]
      refine wpAnyH_take (i := 1) (oi := _) (v := ?_) rfl (by kernel_rfl) (by kernel_rfl) (by kernel_rfl) (fun _ _ _ h => h) (Or.inl ⟨by rfl, ?_⟩) hH ?_
      rotate_left 1
      ·intro Y hSY
       skip
       go_simp
       with_reducible rfl
      try simp only [LY]
      refine wpAnyH_take (i := 2) (oi := _) (v := ?_) rfl (by kernel_rfl) (by kernel_rfl) (by kernel_rfl) (fun _ _ _ h => h) (Or.inl ⟨by rfl, ?_⟩) hH ?_
      rotate_left 1
      ·intro Y hSY
       skip
       go_simp
       with_reducible rfl
      try simp only [LY]
      refine wpAnyH_take (i := 3) (oi := _) (v := ?_) rfl (by kernel_rfl) (by kernel_rfl) (by kernel_rfl) (fun _ _ _ h => h) (Or.inl ⟨by rfl, ?_⟩) hH ?_
      rotate_left 1
      ·intro Y hSY
       skip
       go_simp
       with_reducible rfl
      try simp only [LY]
      refine wpAnyH_take (i := 4) (oi := _) (v := .agg Yp) rfl (by kernel_rfl) (by kernel_rfl) (by kernel_rfl) (fun _ _ _ h => h) (yieldsIf_run (by rfl) _ _ rfl _ rfl _ (fun Y hY => hlp Y hY)) hH ?_
      try simp only [LY]
      refine wpAnyH_take (i := 6) (oi := _) (v := ?_) rfl (by kernel_rfl) (by kernel_rfl) (by kernel_rfl) (fun _ _ _ h => h) (Or.inl ⟨by rfl, ?_⟩) hH ?_
      rotate_left 1
      ·intro Y hSY
       skip
       go_simp
       with_reducible rfl
      try simp only [LY]
      refine wpAnyH_take (i := 7) (oi := _) (v := ?_) rfl (by kernel_rfl) (by kernel_rfl) (by kernel_rfl) (fun _ _ _ h => h) (Or.inl ⟨by rfl, ?_⟩) hH ?_
      rotate_left 1
      ·intro Y hSY
       skip
       go_simp
       with_reducible rfl
      try simp only [LY]
      refine wpAnyH_take (i := 8) (oi := _) (v := ?_) rfl (by kernel_rfl) (by kernel_rfl) (by kernel_rfl) (fun _ _ _ h => h) (Or.inl ⟨by rfl, ?_⟩) hH ?_
      rotate_left 1
      ·intro Y hSY
       skip
       go_simp
       with_reducible rfl
      try simp only [LY]
      refine wpAnyH_take (i := 9) (oi := _) (v := ?_) rfl (by kernel_rfl) (by kernel_rfl) (by kernel_rfl) (fun _ _ _ h => h) (Or.inl ⟨by rfl, ?_⟩) hH ?_
      rotate_left 1
      ·intro Y hSY
       skip
       go_simp
       with_reducible rfl
      try simp only [LY]
      refine wpAnyH_take (i := 10) (oi := _) (v := .agg Yq) rfl (by kernel_rfl) (by kernel_rfl) (by kernel_rfl) (fun _ _ _ h => h) (yieldsIf_run (by rfl) _ _ rfl _ rfl _ (fun Y hY => hlq Y hY)) hH ?_
      try simp only [LY]
      refine wpAnyH_take (i := 13) (oi := _) (v := ?_) rfl (by kernel_rfl) (by kernel_rfl) (by kernel_rfl) (fun _ _ _ h => h) (Or.inl ⟨by rfl, ?_⟩) hH ?_
      rotate_left 1
      ·intro Y hSY
       skip
       go_simp
       with_reducible rfl
      try simp only [LY]
      refine wpAnyH_take (i := 14) (oi := _) (v := ?_) rfl (by kernel_rfl) (by kernel_rfl) (by kernel_rfl) (fun _ _ _ h => h) (Or.inl ⟨by rfl, ?_⟩) hH ?_
      rotate_left 1
      ·intro Y hSY
       skip
       go_simp
       with_reducible rfl
      try simp only [LY]
      refine wpAnyH_ready (rs := [5]) (by kernel_rfl) (by simp) ?_
      refine AllReadyH.cons rfl (fun K hK => ?_) AllReadyH.nil
      ·go_simp
       go_at_call 32
       refine (HCQ.out.1 _ hH.b).mono ?_
       rintro e w5 ⟨T1, rfl, hT1, hb5⟩
       have HB1 := Lib.hid hb5
       clear hb5
       go_wp2_with fail
       refine hK.out _ _ (hH.call HB1.out) (fun hH => ?_)
       clear hK K
       try simp only [LY]
       refine wpAnyH_ready (rs := [11]) (by kernel_rfl) (by simp) ?_
       refine AllReadyH.cons rfl (fun K hK => ?_) AllReadyH.nil
       ·go_simp
        go_at_call 32
        refine (HCQ.out.2 _ hH.b).mono ?_
        rintro e w11 ⟨T2, rfl, hT2, hb11⟩
        have HB2 := Lib.hid hb11
        clear hb11
        go_wp2_with fail
        refine hK.out _ _ (hH.call HB2.out) (fun hH => ?_)
        clear hK K
        try simp only [LY]
        refine wpAnyH_take (i := 12) (oi := _) (v := ?_) rfl (by kernel_rfl) (by kernel_rfl) (by kernel_rfl) (fun _ _ _ h => h) (Or.inl ⟨by rfl, ?_⟩) hH ?_
        rotate_left 1
        ·intro Y hSY
         skip
         go_simp
         with_reducible rfl
        try simp only [LY]
        refine wpAnyH_take (i := 15) (oi := _) (v := ?_) rfl (by kernel_rfl) (by kernel_rfl) (by kernel_rfl) (fun _ _ _ h => h) (Or.inl ⟨by rfl, ?_⟩) hH ?_
        rotate_left 1
        ·intro Y hSY
         skip
         go_simp
         with_reducible rfl
        try simp only [LY]
        refine wpAnyH_ready (rs := [16]) (by kernel_rfl) (by simp) ?_
        refine AllReadyH.cons rfl (fun K hK => ?_) AllReadyH.nil
        ·refine step_buildp rfl (.tmp 96) rfl ⟨T1, T2, (k : Int)⟩ _ rfl rfl ?_
         refine hK.out _ _ (hH.alloc _) (fun hH => ?_)
         clear hK K
         try simp only [LY]
         refine wpAnyH_ready (rs := [17]) (by kernel_rfl) (by simp) ?_
         refine AllReadyH.cons rfl (fun K hK => ?_) AllReadyH.nil
         ·obtain ⟨i0, z0, hi, hz0, hz1, hz2, hzs⟩ := infop3
          have hown := owns_below ((Prs.below HPR.out (Below.refl _ wr).drew).row) (trans_b HB1.out HB2.out)
          refine step_append_lies _ rfl (.tmp 81) (.tmp 97) 119 rfl (w.heap.size + 1) 123 i0 z0 17 216 Tryz.underlying119 hi hz0 hz1 hz2 hzs (by decide) u11 L.length (L.flatMap encp) rfl (World.ownsRow.alloc hown _) ⟨w11.heap.size, 0, none⟩ 1 1 (encp ⟨T1, T2, (k : Int)⟩) rfl rfl (fun j u hu => ?_) (encp_one _) (by decide) (by have := HK.out; unfold maxLen; omega) (by have := HK.out; omega) (by have := hH.b.size; have := (Array.getElem?_eq_some_iff.1 hH.z).1; omega) (w11.heap.size + 1) (by simp) ?_
          ·rw [add_plain, cell_of_row _ _ _ _ _ _ (heap_alloc_new w11 _)]
           simpa using hu
          intro g cap w12 hown2 hgr hlies hglt
          have HPR2 : Hid (Prs (w.heap.size + 1) w12 (.slice (some ⟨g, 0, none⟩) (L.length + 1) cap) l (L ++ [⟨T1, T2, (k : Int)⟩])) := Lib.hid (Prs.step (W := wr.drew) (w1 := w5) (w2 := w11) (HPR.out.below (Below.refl _ wr).drew) (Array.getElem?_eq_some_iff.1 HS.out.z).1 HB1.out hT1.out.1 HB2.out hT2.out.1 hown2 hgr hlies (by rw [HK.out]; exact hl2) (by have := hT1.out.2; simp only [HK.out]; exact this) (by have := hT2.out.2; simp only [HK.out]; exact this) (by rw [HK.out]))
          have HS12 : Hid (SZ w w12) := Lib.hid (hH.grown hgr (fun r e => (World.ownsRow.lt HPR.out.row r e).1))
          refine hK.out _ _ HS12.out (fun hH => ?_)
          clear hK K hown hown2 hgr hlies hglt hi hz0 hz1 hz2 hzs
          try simp only [LY]
          refine wpAnyH_take (i := 18) (oi := _) (v := ?_) rfl (by kernel_rfl) (by kernel_rfl) (by kernel_rfl) (fun _ _ _ h => h) (Or.inl ⟨by rfl, ?_⟩) hH ?_
          rotate_left 1
          ·intro Y hSY
           skip
           go_simp
           with_reducible rfl
          try simp only [LY]
          refine wpAnyH_done (by kernel_rfl) ?_ _
          go_wp2
          go_roundw
          case rel => exact ⟨L ++ [⟨T1, T2, (k : Int)⟩], k + 1, by rw [show 2 * ((k + 1 : Nat) : Int) = 2 * (k : Int) + 2 by omega], by omega, Lib.hid (by rw [List.length_append, HK.out]; rfl), HS12, HPR2⟩
          case measure => simp [intOf]; omega
     ·have h2k : 2 * k = m := by omega
      have HLm : Hid (2 * L.length = m) := Lib.hid (by rw [HK.out]; exact h2k)
      have HTC := Lib.hid (HTW.out wr _ L HS.out.b HPR.out HLm.out)
      have HALL : Hid (∀ j, j < m → r1 j = none ∧ r2 j = none) := HN
      clear hlt
      go_upto_region 22 with (go_at_call 129; go_must (refine HTC.out.mono ?_); go_must (rintro e w1 ⟨f, rfl, HF, hb1⟩; have HS1 := Lib.hid (HS.out.call hb1); have HP1 := Lib.hid (HPR.out.below hb1); clear hb1))
      have HTA : Hid (TwiceAt cmpV (keyG l) (m / 2) f) := Lib.hid (by rw [show m / 2 = L.length by have := HLm.out; omega]; exact HF.out)
      by_cases hf : 0 ≤ f
      ·obtain ⟨n, rfl, hnl⟩ : ∃ n : Nat, f = n ∧ n < L.length := by
        rcases HF.out with ⟨h, _⟩ | ⟨j, h, h2, _⟩
        ·omega
        ·exact ⟨j, h, h2⟩
       obtain ⟨g, cap, rfl, hgb, hcell⟩ : ∃ g cap, u11 = .slice (some ⟨g, 0, none⟩) k cap ∧ w.heap.size + 1 ≤ g ∧ w1.cell? ⟨g, n * 17 + 16, none⟩ = some (.int .i64 (n : Nat)) := by
        rcases HP1.out.row.2 with ⟨_, h0⟩ | ⟨g, cap, cur, e, h1, h2, h3, h4, h5, h6⟩
        ·omega
        ·have hc := HP1.out.row.cells (g := g) (by rw [e]; rfl) (n * 17 + 16) (.int .i64 (L[n]).num) (by
          rw [flatp_at L n hnl 16 (by omega)]
          rfl)
         rw [add_plain] at hc
         obtain ⟨_, _, _, hnum⟩ := HP1.out.kc n hnl
         rw [hnum] at hc
         exact ⟨g, cap, by rw [e, HK.out], h1, hc⟩
       have hn0 : (0 : Int) ≤ (n : Int) := by omega
       have hnk : (n : Int) < (k : Int) := by have := HK.out; omega
       have HSC : Hid (SC w g (n * 17 + 16) (.int .i64 (n : Nat)) w1) := Lib.hid ⟨HS1.out, hcell, by omega⟩
       have HQ : Hid (∀ e w', MErr a 3 (n : Nat) ⟨#[]⟩ w e w' → Q e w') := Lib.hid (HQ3.out HEV.out HALL.out n HTA.out)
       have HBS : Hid (w.heap.size ≤ w1.heap.size) := Lib.hid HS1.out.b.size
       clear hcell
       go_upto_region 23 with fail
       refine wp_region_held_drew (S := fun X => SC w g (n * 17 + 16) (.int .i64 (n : Nat)) X) (by kernel_rfl) HSC.out.drew (fun hH => ?_)
       refine wpAnyH_take (i := 0) (oi := _) (v := ?_) rfl (by kernel_rfl) (by kernel_rfl) (by kernel_rfl) (fun _ _ _ h => h) (Or.inl ⟨by rfl, ?_⟩) hH ?_
       rotate_left 1
       ·intro Y hSY
        have e3 := (HE.out _ hSY.z.b).2.2; have c23 := hSY.c
        go_simp
        with_reducible rfl
       try simp only [LY]
       refine wpAnyH_take (i := 1) (oi := _) (v := ?_) rfl (by kernel_rfl) (by kernel_rfl) (by kernel_rfl) (fun _ _ _ h => h) (Or.inl ⟨by rfl, ?_⟩) hH ?_
       rotate_left 1
       ·intro Y hSY
        have e3 := (HE.out _ hSY.z.b).2.2; have c23 := hSY.c
        go_simp
        with_reducible rfl
       try simp only [LY]
       refine wpAnyH_take (i := 2) (oi := _) (v := ?_) rfl (by kernel_rfl) (by kernel_rfl) (by kernel_rfl) (fun _ _ _ h => h) (Or.inl ⟨by rfl, ?_⟩) hH ?_
       rotate_left 1
       ·intro Y hSY
        have e3 := (HE.out _ hSY.z.b).2.2; have c23 := hSY.c
        go_simp
        with_reducible rfl
       try simp only [LY]
       refine wpAnyH_take (i := 3) (oi := _) (v := ?_) rfl (by kernel_rfl) (by kernel_rfl) (by kernel_rfl) (fun _ _ _ h => h) (Or.inl ⟨by rfl, ?_⟩) hH ?_
       rotate_left 1
       ·intro Y hSY
        have e3 := (HE.out _ hSY.z.b).2.2; have c23 := hSY.c
        go_simp
        with_reducible rfl
       try simp only [LY]
       refine wpAnyH_take (i := 4) (oi := _) (v := ?_) rfl (by kernel_rfl) (by kernel_rfl) (by kernel_rfl) (fun _ _ _ h => h) (Or.inl ⟨by rfl, ?_⟩) hH ?_
       rotate_left 1
       ·intro Y hSY
        have e3 := (HE.out _ hSY.z.b).2.2; have c23 := hSY.c
        go_simp
        with_reducible rfl
       try simp only [LY]
       refine wpAnyH_take (i := 5) (oi := _) (v := ?_) rfl (by kernel_rfl) (by kernel_rfl) (by kernel_rfl) (fun _ _ _ h => h) (Or.inl ⟨by rfl, ?_⟩) hH ?_
       rotate_left 1
       ·intro Y hSY
        have e3 := (HE.out _ hSY.z.b).2.2; have c23 := hSY.c
        go_simp
        with_reducible rfl
       try simp only [LY]
       refine wpAnyH_take (i := 6) (oi := _) (v := ?_) rfl (by kernel_rfl) (by kernel_rfl) (by kernel_rfl) (fun _ _ _ h => h) (Or.inl ⟨by rfl, ?_⟩) hH ?_
       rotate_left 1
       ·intro Y hSY
        have e3 := (HE.out _ hSY.z.b).2.2; have c23 := hSY.c
        go_simp
        with_reducible rfl
       try simp only [LY]
       refine wpAnyH_take (i := 7) (oi := _) (v := ?_) rfl (by kernel_rfl) (by kernel_rfl) (by kernel_rfl) (fun _ _ _ h => h) (Or.inl ⟨by rfl, ?_⟩) hH ?_
       rotate_left 1
       ·intro Y hSY
        have e3 := (HE.out _ hSY.z.b).2.2; have c23 := hSY.c
        go_simp
        with_reducible rfl
       try simp only [LY]
       refine wpAnyH_ready (rs := [8, 10]) (by kernel_rfl) (by simp) ?_
       refine AllReadyH.cons rfl (fun K hK => ?_) (AllReadyH.cons rfl (fun K hK => ?_) AllReadyH.nil)
       ·go_simp
        refine hK.out _ _ (hH.alloc _) (fun hH => ?_)
        clear hK K
        try simp only [LY]
        refine wpAnyH_take (i := 9) (oi := _) (v := ?_) rfl (by kernel_rfl) (by kernel_rfl) (by kernel_rfl) (fun _ _ _ h => h) (Or.inl ⟨by rfl, ?_⟩) hH ?_
        rotate_left 1
        ·intro Y hSY
         skip
         go_simp
         with_reducible rfl
        try simp only [LY]
        refine wpAnyH_ready (rs := [10]) (by kernel_rfl) (by simp) ?_
        refine AllReadyH.cons rfl (fun K hK => ?_) AllReadyH.nil
        ·refine step_zero rfl (.tmp 2) (.tmp 104) rfl rfl rfl hH.z ?_
         refine hK.out _ _ hH.store (fun hH => ?_)
         clear hK K
         try simp only [LY]
         refine wpAnyH_take (i := 11) (oi := _) (v := ?_) rfl (by kernel_rfl) (by kernel_rfl) (by kernel_rfl) (fun _ _ _ h => h) (Or.inl ⟨by rfl, ?_⟩) hH ?_
         rotate_left 1
         ·intro Y hSY
          skip
          go_simp
          with_reducible rfl
         try simp only [LY]
         refine wpAnyH_done (by kernel_rfl) ?_ _
         obtain ⟨X, hX, HF, HSZ⟩ : ∃ X, ((((w1).alloc (.cells #[.iface 330 (.pointer (some (a 3))), .int .i64 ((n : Nat) : Int), .string ⟨#[]⟩] 89)).drew).setCells w.heap.size 0 [.int .i8 0, .int .u64 0, .bool false, .slice none 0 0, .int .u64 0, .int .i8 0, .string ⟨#[]⟩, .slice none 0 0]) = X ∧ Hid (IsF a 3 ((n : Nat) : Int) ⟨#[]⟩ w1.heap.size X) ∧ Hid (SZ w X) := ⟨_, rfl, Lib.hid (isF1 HS1.out), Lib.hid hH.z⟩
         rw [hX]
         clear hX hH
         have hLd := HSZ.out.load
         go_wp2
         refine bodyPost_ret (v := .tuple #[.agg zeroV, .iface 87 (.pointer (some ⟨w1.heap.size, 0, none⟩))]) ?_ rfl ⟨HQ.out _ _ ⟨_, rfl, HBS.out, HF.out⟩, HSZ.out.b⟩
         simp [results, Tryz.results35, hLd, asAddr, Act.put, size_setCells']
       ·refine step_zero rfl (.tmp 2) (.tmp 104) rfl rfl rfl hH.z ?_
        refine hK.out _ _ hH.store (fun hH => ?_)
        clear hK K
        try simp only [LY]
        refine wpAnyH_ready (rs := [8]) (by kernel_rfl) (by simp) ?_
        refine AllReadyH.cons rfl (fun K hK => ?_) AllReadyH.nil
        ·go_simp
         refine hK.out _ _ (hH.alloc _) (fun hH => ?_)
         clear hK K
         try simp only [LY]
         refine wpAnyH_take (i := 9) (oi := _) (v := ?_) rfl (by kernel_rfl) (by kernel_rfl) (by kernel_rfl) (fun _ _ _ h => h) (Or.inl ⟨by rfl, ?_⟩) hH ?_
         rotate_left 1
         ·intro Y hSY
          skip
          go_simp
          with_reducible rfl
         try simp only [LY]
         refine wpAnyH_take (i := 11) (oi := _) (v := ?_) rfl (by kernel_rfl) (by kernel_rfl) (by kernel_rfl) (fun _ _ _ h => h) (Or.inl ⟨by rfl, ?_⟩) hH ?_
         rotate_left 1
         ·intro Y hSY
          skip
          go_simp
          with_reducible rfl
         try simp only [LY]
         refine wpAnyH_done (by kernel_rfl) ?_ _
         obtain ⟨X, hX, HF, HSZ⟩ : ∃ X, (((w1).drew.setCells w.heap.size 0 [.int .i8 0, .int .u64 0, .bool false, .slice none 0 0, .int .u64 0, .int .i8 0, .string ⟨#[]⟩, .slice none 0 0]).alloc (.cells #[.iface 330 (.pointer (some (a 3))), .int .i64 ((n : Nat) : Int), .string ⟨#[]⟩] 89)) = X ∧ Hid (IsF a 3 ((n : Nat) : Int) ⟨#[]⟩ w1.heap.size X) ∧ Hid (SZ w X) := ⟨_, rfl, Lib.hid (isF2), Lib.hid hH.z⟩
         rw [hX]
         clear hX hH
         have hLd := HSZ.out.load
         go_wp2
         refine bodyPost_ret (v := .tuple #[.agg zeroV, .iface 87 (.pointer (some ⟨w1.heap.size, 0, none⟩))]) ?_ rfl ⟨HQ.out _ _ ⟨_, rfl, HBS.out, HF.out⟩, HSZ.out.b⟩
         simp [results, Tryz.results35, hLd, asAddr, Act.put, size_setCells']
      ·have hfm : f = -1 := by
        rcases HF.out with ⟨h, _⟩ | ⟨j, h, h2, _⟩
        ·exact h
        ·omega
       subst hfm
       cases bd with
       | true =>
        have HQ := Lib.hid (HQ4.out HEV.out HALL.out HTA.out (by obtain ⟨j, h1, h2⟩ := HD.out.1 rfl; exact ⟨j, h1, h2⟩))
        go_upto_region 25 with fail
        refine wp_region_held_drew (S := fun X => SZ w X) (by kernel_rfl) HS1.out.drew (fun hH => ?_)
        refine wpAnyH_take (i := 0) (oi := _) (v := ?_) rfl (by kernel_rfl) (by kernel_rfl) (by kernel_rfl) (fun _ _ _ h => h) (Or.inl ⟨by rfl, ?_⟩) hH ?_
        rotate_left 1
        ·intro Y hSY
         have e5 := (HE.out _ hSY.b).2.1
         go_simp
         with_reducible rfl
        try simp only [LY]
        refine wpAnyH_take (i := 1) (oi := _) (v := ?_) rfl (by kernel_rfl) (by kernel_rfl) (by kernel_rfl) (fun _ _ _ h => h) (Or.inl ⟨by rfl, ?_⟩) hH ?_
        rotate_left 1
        ·intro Y hSY
         have e5 := (HE.out _ hSY.b).2.1
         go_simp
         with_reducible rfl
        try simp only [LY]
        refine wpAnyH_ready (rs := [2]) (by kernel_rfl) (by simp) ?_
        refine AllReadyH.cons rfl (fun K hK => ?_) AllReadyH.nil
        ·refine step_zero rfl (.tmp 2) (.tmp 115) rfl rfl rfl hH ?_
         refine hK.out _ _ hH.store (fun hH => ?_)
         clear hK K
         try simp only [LY]
         refine wpAnyH_take (i := 3) (oi := _) (v := ?_) rfl (by kernel_rfl) (by kernel_rfl) (by kernel_rfl) (fun _ _ _ h => h) (Or.inl ⟨by rfl, ?_⟩) hH ?_
         rotate_left 1
         ·intro Y hSY
          skip
          go_simp
          with_reducible rfl
         try simp only [LY]
         refine wpAnyH_done (by kernel_rfl) ?_ _
         have hLd := hH.load
         have HSZ := Lib.hid hH
         obtain ⟨X, hX, hL2, HSY⟩ : ∃ X, (w1.drew.setCells w.heap.size 0 [.int .i8 0, .int .u64 0, .bool false, .slice none 0 0, .int .u64 0, .int .i8 0, .string ⟨#[]⟩, .slice none 0 0]) = X ∧ Sem.run Tryz.prog (loadVar 31 ⟨w.heap.size, 0, none⟩) X = .ok (.agg zeroV) X ∧ Hid (SZ w X) := ⟨_, rfl, hLd, Lib.hid hH⟩
         rw [hX]
         clear hX hH hLd HSZ
         go_wp2
         refine bodyPost_ret (v := .tuple #[.agg zeroV, .iface 330 (.pointer (some (a 5)))]) ?_ rfl ⟨HQ.out _, HSY.out.b⟩
         simp [results, Tryz.results35, hL2, asAddr, Act.put]
       | false =>
        have HDL : Hid (∀ j, j < m → dp j < 128) := Lib.hid fun j hj => by
         rcases Nat.lt_or_ge (dp j) 128 with h | h
         ·exact h
         ·exact absurd (HD.out.2 ⟨j, hj, h⟩) (by decide)
        have HQ := Lib.hid (HQ5.out HEV.out HALL.out HTA.out HDL.out)
        go_upto_region 27 with fail
        have HS2 : Hid (SZ w (w1.alloc (.cells #[.int .i8 8, .int .u64 0, .bool false, .slice none 0 0, .int .u64 0, .int .i8 0, .string ⟨#[]⟩, .slice none 0 0] 31))) := Lib.hid (HS1.out.alloc _)
        have HP2 : Hid (Prs (w.heap.size + 1) (w1.alloc (.cells #[.int .i8 8, .int .u64 0, .bool false, .slice none 0 0, .int .u64 0, .int .i8 0, .string ⟨#[]⟩, .slice none 0 0] 31)) u11 l L) := Lib.hid (HP1.out.below ((Below.refl _ w1).alloc (Nat.le_refl _) _))
        have HBM : Hid ((w1.alloc (.cells #[.int .i8 8, .int .u64 0, .bool false, .slice none 0 0, .int .u64 0, .int .i8 0, .string ⟨#[]⟩, .slice none 0 0] 31)).heap[w1.heap.size]? = some (.cells #[.int .i8 8, .int .u64 0, .bool false, .slice none 0 0, .int .u64 0, .int .i8 0, .string ⟨#[]⟩, .slice none 0 0] 31 (0, 0))) := Lib.hid (heap_alloc_new _ _)
        have HBL : Hid (w.heap.size < w1.heap.size ∧ ∀ b ∈ PL L, b < w1.heap.size) := Lib.hid ⟨(Array.getElem?_eq_some_iff.1 HS1.out.z).1, fun b hb => (HP1.out.mine.rg hb).2⟩
        generalize (w1.alloc (.cells #[.int .i8 8, .int .u64 0, .bool false, .slice none 0 0, .int .u64 0, .int .i8 0, .string ⟨#[]⟩, .slice none 0 0] 31)) = W2 at *
        generalize w1.heap.size = bm at *
        have hso := HSO.out W2 _ L HS2.out.b HP2.out HLm.out
        rw [HK.out] at hso
        have HSC := Lib.hid hso
        clear hso
        go_wp2_with (go_at_call 130; go_must (refine HSC.out.mono ?_); go_must (rintro e w2 ⟨A', cap', R, rfl, HR2, hb2⟩; have HB2 := Lib.hid hb2; clear hb2))
        have hRl : R.length = k := by rw [← HK.out]; exact HR2.out.2.2.length_eq
        obtain ⟨gs, hF, hA⟩ : ∃ gs, FinP (w.heap.size + 1) w2 gs bm none 0 R 0 ∧ (0 < k → A' = some ⟨gs, 0, none⟩) := by
         have hbl := HBL.out
         have hbx : w2.heap[bm]? = some (.cells #[.int .i8 8, .int .u64 0, .bool false, .slice none 0 0, .int .u64 0, .int .i8 0, .string ⟨#[]⟩, .slice none 0 0] 31 (0, 0)) := (HB2.out.block bm (Array.getElem?_eq_some_iff.1 HBM.out).1).trans HBM.out
         have hbml := (Array.getElem?_eq_some_iff.1 HBM.out).1
         have hmm := (HP2.out.mine.below HB2.out).perm HR2.out.2.2
         have hbmn : bm ∉ PL R := fun h => Nat.lt_irrefl _ (hbl.2 bm ((HR2.out.2.2.flatMap_right _).mem_iff.1 h))
         by_cases h0 : 0 < k
         ·obtain ⟨gs, e1, e2, e3, e4⟩ := HR2.out.1 h0
          exact ⟨gs, ⟨World.ownsRow_nil _ _ _ _, hmm, fun a e => by (cases e), hbx, e3, e4, hbmn, by omega, by omega⟩, fun _ => e1⟩
         ·have hR0 : R = [] := List.eq_nil_of_length_eq_zero (by omega)
          refine ⟨w.heap.size, ⟨World.ownsRow_nil _ _ _ _, hmm, fun a e => by (cases e), hbx, fun i hi => ?_, by have := HB2.out.size; omega, hbmn, by omega, by omega⟩, fun h => absurd h h0⟩
          subst hR0
          simp at hi
        have HFP := Lib.hid hF
        have HS3 : Hid (SZ w w2) := Lib.hid (HS2.out.call HB2.out)
        have HA := Lib.hid hA
        have HRL := Lib.hid hRl
        have HRS := Lib.hid HR2.out.2
        clear hF hA hRl HR2 HSC HS2 HP2 HBM HBL HB2
        obtain ⟨Wb, rfl⟩ : ∃ X, X = wr := ⟨_, rfl⟩
        go_loopw [122] (fun t W => ∃ (i : Nat) (A2 : Option Addr) (cp : Nat), t = .int .i64 (i : Nat) ∧ i ≤ k ∧ Hid (FinP (w.heap.size + 1) W gs bm A2 cp R i) ∧ Hid (SZ w W)) (fun t _ => k - (intOf t).toNat)
        case atStart => exact ⟨0, none, 0, rfl, Nat.zero_le _, HFP, HS3⟩
        case round =>
         obtain ⟨i, A2, cp, rfl, hik, HF, HS⟩ := hrel
         by_cases hlt : i < k
         ·obtain rfl := HA.out (by omega)
          have hi0 : (0 : Int) ≤ (i : Int) := by omega
          have hi1 : (i : Int) < (k : Int) := by omega
          have hiR : i < R.length := by rw [HRL.out]; exact hlt
          obtain ⟨x, hx⟩ : ∃ x, R[i]'hiR = x := ⟨_, rfl⟩
          have HLX : Hid (Sem.run Tryz.prog (loadVar 123 ⟨gs, i * 17, none⟩) wr = .ok (.agg (encp x).toArray) wr) := Lib.hid (by
           have h := pair_load (m := k) HF.out.src (Below.refl _ wr) hiR
           rw [Nat.zero_add, hx] at h
           exact h)
          have HXX := Lib.hid hx
          clear hx
          go_upto_region 29 with fail
          obtain ⟨Xx, hXx⟩ : ∃ X, (encp x).toArray = X := ⟨_, rfl⟩
          have HXX2 := Lib.hid hXx
          rw [hXx] at HLX
          have hXs : Xx.size = 17 := by rw [← hXx]; rfl
          have hXa : Xx.all (·.oneCell') = true := by rw [← hXx]; exact all_oneCell_toArray (encp_one x)
          have HXS := Lib.hid (And.intro hXs hXa)
          clear hXx hXs hXa
          apply wp_region_lit
          refine wpList_plain rfl fun K hK => ?_
          go_simp
          refine hK _ _ ?_
          clear hK K
          try simp only [LY]
          refine wpList_loadrun rfl _ _ rfl _ rfl _ HLX.out ?_
          try simp only [LY]
          refine wpList_plain rfl fun K hK => ?_
          go_simp
          refine hK _ _ ?_
          clear hK K
          try simp only [LY]
          refine wpList_store_mid rfl 123 (.tmp 17) (.tmp 125) rfl wr.heap.size 0 Xx rfl rfl (there_row (heap_alloc_new _ _) 0 _ (by rw [HXS.out.1]; simp)) (by rw [HXS.out.1]; exact infop) HXS.out.2 ?_
          obtain ⟨W3, hW3, hb3, hblk⟩ : ∃ X, ((wr.alloc (.cells #[.int .i8 0, .int .u64 0, .bool false, .slice none 0 0, .int .u64 0, .int .i8 0, .string ⟨#[]⟩, .slice none 0 0, .int .i8 0, .int .u64 0, .bool false, .slice none 0 0, .int .u64 0, .int .i8 0, .string ⟨#[]⟩, .slice none 0 0, .int .i64 0] 123)).setCells wr.heap.size 0 Xx.toList) = X ∧ Below wr.heap.size wr X ∧ X.heap[wr.heap.size]? = some (.cells (encp x).toArray 123 (0, 0)) := ⟨_, rfl, below_setCells _ _ 0 _ ((Below.refl _ wr).alloc (Nat.le_refl _) _) (Nat.le_refl _), by rw [HXX2.out]; exact set_new wr _ Xx _ (by rw [HXS.out.1]; simp)⟩
          rw [hW3]
          have HF3 := Lib.hid (HF.out.below hb3)
          have HS3 := Lib.hid (HS.out.call hb3)
          have HKL := Lib.hid (key_load hblk)
          have HVL := Lib.hid (val8_load hblk)
          generalize wr.heap.size = p17 at *
          clear hW3 hb3 hblk HF HS HLX HFP
          go_upto_region 30 with fail
          have c7 : W3.cell? ⟨bm, 7, none⟩ = some (.slice A2 (2 * i) cp) := cell_of_row _ _ _ _ _ _ HF3.out.box
          apply wp_region_lit
          refine wpList_plain rfl fun K hK => ?_
          go_simp
          refine hK _ _ ?_
          clear hK K
          try simp only [LY]
          refine wpList_plain rfl fun K hK => ?_
          go_simp
          refine hK _ _ ?_
          clear hK K
          try simp only [LY]
          refine wpList_plain rfl fun K hK => ?_
          go_simp
          refine hK _ _ ?_
          clear hK K
          try simp only [LY]
          refine wpList_plain rfl fun K hK => ?_
          go_simp
          refine hK _ _ ?_
          clear hK K
          try simp only [LY]
          refine wpList_loadrun rfl _ _ rfl _ rfl _ HKL.out ?_
          try simp only [LY]
          refine wpList_plain rfl fun K hK => ?_
          go_simp
          refine hK _ _ ?_
          clear hK K
          try simp only [LY]
          refine wpList_plain rfl fun K hK => ?_
          go_simp
          refine hK _ _ ?_
          clear hK K
          try simp only [LY]
          refine wpList_loadrun rfl _ _ rfl _ rfl _ HVL.out ?_
          try simp only [LY]
          refine wpList_plain rfl fun K hK => ?_
          go_simp
          refine hK _ _ ?_
          clear hK K
          try simp only [LY]
          obtain ⟨i0, hi, hzz⟩ := Option.map_eq_some_iff.1 info_value
          simp only [Prod.mk.injEq] at hzz
          obtain ⟨hz0, hz1, hz2⟩ := hzz
          refine wpList_append_lies _ rfl (.tmp 127) (.tmp 134) 29 rfl (w.heap.size + 1) 31 i0 (.agg zeroV) 8 104 Tryz.underlying29 hi hz0 hz1 hz2 rfl (by decide) (.slice A2 (2 * i) cp) (2 * i) ((kvs (R.take i)).flatMap VT.cells) rfl (World.ownsRow.alloc HF3.out.kr _) ⟨W3.heap.size, 0, none⟩ 2 2 (x.key.cells ++ x.val.cells) rfl rfl (fun j u hu => ?_) (fun u hu => ?_) (by decide) (by unfold maxLen; omega) (by omega) (by have := HS3.out.b.size; have := (Array.getElem?_eq_some_iff.1 HS3.out.z).1; simp; omega) (W3.heap.size + 1) (by simp) ?_
          ·rw [add_plain, cell_of_row _ _ _ _ _ _ (heap_alloc_new W3 _), List.getElem?_toArray]
           exact hu
          ·rcases List.mem_append.1 hu with h | h
           ·exact Array.all_eq_true_iff_forall_mem.1 (cells_one x.key) u (by simpa using h)
           ·exact Array.all_eq_true_iff_forall_mem.1 (cells_one x.val) u (by simpa using h)
          intro g cap2 w4 hown2 hgr hlies hglt
          rw [ownBlock_map] at hgr hlies
          have hbml := (Array.getElem?_eq_some_iff.1 HF3.out.box).1
          have hbm4 := (hgr.block bm (by simp; omega) (fun e => by cases A2 with | none => cases e | some a2 => injection e with e; exact (HF3.out.ap a2 rfl).2.1 e.symm)).trans ((Below.heap_alloc _ _ _ hbml).trans HF3.out.box)
          have c7b : w4.cell? ⟨bm, 7, none⟩ = some (.slice A2 (2 * i) cp) := cell_of_row _ _ _ _ _ _ hbm4
          have f7b : w4.frozen? ⟨bm, 7, none⟩ = false := by simp [World.frozen?, hbm4]
          have HS4 : Hid (SZ w w4) := Lib.hid ((HS3.out.alloc _).grown hgr (fun r e => (World.ownsRow.lt HF3.out.kr r (by rw [ownBlock_map]; exact e.symm ▸ rfl)).1))
          have HS5 : Hid (SZ w (w4.setCell ⟨bm, 7, none⟩ (.slice (some ⟨g, 0, none⟩) (2 * i + 2) cap2))) := Lib.hid (HS4.out.grown (row := some bm) ⟨rfl, rfl, rfl, by simp, fun q _ hne => Below.heap_setCell _ _ _ _ (fun e => hne (by rw [e]))⟩ (fun r e => by injection e with e; have := HF3.out.sb.2.2; omega))
          have HF5 := Lib.hid (HF3.out.step hiR ((Below.refl _ W3).alloc (Nat.le_refl _) _) (by rw [HXX.out]; exact hown2) hgr (by simpa using hlies) hglt)
          clear hi hz0 hz1 hz2 hown2 hgr hlies hglt hbml hbm4 HS4 HF3 HS3
          try simp only [LY]
          refine wpList_plain rfl fun K hK => ?_
          go_simp
          refine hK _ _ ?_
          clear hK K
          try simp only [LY]
          refine wpList_plain rfl fun K hK => ?_
          go_simp
          refine hK _ _ ?_
          clear hK K
          try simp only [LY]
          go_wp2
          go_roundw
          case rel => exact ⟨i + 1, some ⟨g, 0, none⟩, cap2, by go_num, by omega, HF5, HS5⟩
          case measure => simp [intOf]; omega
         ·obtain rfl : k = i := by omega
          clear hlt
          go_upto_region 32 with fail
          have hF := HF.out
          rw [← HRL.out] at hF
          have hM := hF.fin
          have hLT : Sem.run Tryz.prog (loadVar 31 ⟨bm, 0, none⟩) wr = .ok (mapT A2 cp R).agg wr := run_loadVar_mid wr bm 0 31 (mapT A2 cp R).cells _ (fun j v hv => by
            rw [Nat.zero_add, cell_of_row _ _ _ _ _ _ hF.box, List.getElem?_toArray]
            have e : (mapT A2 cp R).kids = .slice A2 (2 * R.length) cp := by show Value.slice A2 (kvs R).length cp = _; rw [kvs_len]
            unfold VT.cells at hv
            rw [e] at hv
            exact hv) Tryz.underlying31 rfl size_value
          have hMV : MapV l (mapT A2 cp R) := ⟨A2, cp, L, R, rfl, by rw [HL.out]; exact HLm.out, HPR.out.kc, HRS.out.1, HRS.out.2⟩
          have HLT := Lib.hid hLT
          have HMV := Lib.hid hMV
          have HMM := Lib.hid hM
          generalize mapT A2 cp R = T at *
          clear hF hM hLT hMV
          apply wp_region_lit
          refine wpList_loadrun rfl _ _ rfl _ rfl _ HLT.out ?_
          try simp only [LY]
          refine wpList_store_mid rfl 31 (.tmp 2) (.tmp 138) rfl w.heap.size 0 T.cells.toArray rfl rfl HS.out.there size_value (cells_one T) ?_
          obtain ⟨Xf, hXf, hLd, hMn, hBl⟩ : ∃ X, (wr.setCells w.heap.size 0 T.cells.toArray.toList) = X ∧ Sem.run Tryz.prog (loadVar 31 ⟨w.heap.size, 0, none⟩) X = .ok T.agg X ∧ Mine w.heap.size X T ∧ Below w.heap.size w X := ⟨_, rfl, run_loadVar_mid _ w.heap.size 0 31 T.cells _ (World.rangeAt_setCells_same _ _ _ _ HS.out.there) Tryz.underlying31 rfl size_value, (HMM.out.put _ _ (Nat.lt_succ_self _) _).low (Nat.le_succ _), below_setCells _ _ 0 _ HS.out.b (Nat.le_refl _)⟩
          rw [hXf]
          have HMN := Lib.hid hMn
          have HBL := Lib.hid hBl
          clear hXf hMn hBl
          refine wpList_plain rfl fun K hK => ?_
          go_simp
          refine hK _ _ ?_
          clear hK K
          try simp only [LY]
          go_wp2
          refine bodyPost_ret (v := .tuple #[T.agg, .nilIface]) ?_ rfl ⟨HQ.out T _ HMN.out HMV.out, HBL.out⟩
          simp [results, Tryz.results35, hLd, asAddr, Act.put]
end Go.Proofs.YtcpkjmpbpmeclaaGreatDoor
