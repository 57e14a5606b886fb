/- errors.is of any error. -/
import Derived.Test.YtfjgjhicinaolaaDoorA
namespace Go.Proofs.YtfjgjhicinaolaaDoor
open Go.RowKit Go.Extern.Stop Go.Stop Go.Extern
set_option maxRecDepth 100000
set_option linter.unusedVariables false
set_option linter.unusedSimpArgs false
set_option linter.unnecessarySimpa false

theorem noIsO (v : Value) (xT : TypeId) (w : World) : (Instr.typeAssert (.iface 67 v) xT 113 true).run Tryd.prog w = .ok (.tuple #[.nilIface, .bool false]) w := run_typeAssert_lacksB Tryd.underlying113 (by kernel_rfl) (by kernel_rfl) v xT w
theorem noIsM (v : Value) (xT : TypeId) (w : World) : (Instr.typeAssert (.iface 70 v) xT 113 true).run Tryd.prog w = .ok (.tuple #[.nilIface, .bool false]) w := run_typeAssert_lacksB Tryd.underlying113 (by kernel_rfl) (by kernel_rfl) v xT w
theorem hasIsC (v : Value) (xT : TypeId) (w : World) : (Instr.typeAssert (.iface 73 v) xT 113 true).run Tryd.prog w = .ok (.tuple #[.iface 73 v, .bool true]) w := run_typeAssert_hasB Tryd.underlying113 (by kernel_rfl) v xT w
theorem hasUO (v : Value) (xT : TypeId) (w : World) : (Instr.typeAssert (.iface 67 v) xT 109 true).run Tryd.prog w = .ok (.tuple #[.iface 67 v, .bool true]) w := run_typeAssert_hasB Tryd.underlying109 (by kernel_rfl) v xT w
theorem noUM (v : Value) (xT : TypeId) (w : World) : (Instr.typeAssert (.iface 70 v) xT 109 true).run Tryd.prog w = .ok (.tuple #[.nilIface, .bool false]) w := run_typeAssert_lacksB Tryd.underlying109 (by kernel_rfl) (by kernel_rfl) v xT w
theorem hasUsM (v : Value) (xT : TypeId) (w : World) : (Instr.typeAssert (.iface 70 v) xT 111 true).run Tryd.prog w = .ok (.tuple #[.iface 70 v, .bool true]) w := run_typeAssert_hasB Tryd.underlying111 (by kernel_rfl) v xT w
theorem noUC (v : Value) (xT : TypeId) (w : World) : (Instr.typeAssert (.iface 73 v) xT 109 true).run Tryd.prog w = .ok (.tuple #[.nilIface, .bool false]) w := run_typeAssert_lacksB Tryd.underlying109 (by kernel_rfl) (by kernel_rfl) v xT w
theorem noUsC (v : Value) (xT : TypeId) (w : World) : (Instr.typeAssert (.iface 73 v) xT 111 true).run Tryd.prog w = .ok (.tuple #[.nilIface, .bool false]) w := run_typeAssert_lacksB Tryd.underlying111 (by kernel_rfl) (by kernel_rfl) v xT w
theorem methodUO (v : Value) (w : World) : (Go.method 268 67 v "Unwrap").run Tryd.prog w = .ok (93, v) w := by kernel_rfl
theorem methodUM (v : Value) (w : World) : (Go.method 268 70 v "Unwrap").run Tryd.prog w = .ok (95, v) w := by kernel_rfl
theorem methodIC (v : Value) (w : World) : (Go.method 268 73 v "Is").run Tryd.prog w = .ok (97, v) w := by kernel_rfl
theorem nil113 (xT : TypeId) (w : World) : (Instr.typeAssert .nilIface xT 113 true).run Tryd.prog w = .ok (.tuple #[.nilIface, .bool false]) w := by kernel_rfl
theorem nil109 (xT : TypeId) (w : World) : (Instr.typeAssert .nilIface xT 109 true).run Tryd.prog w = .ok (.tuple #[.nilIface, .bool false]) w := by kernel_rfl
theorem nil111 (xT : TypeId) (w : World) : (Instr.typeAssert .nilIface xT 111 true).run Tryd.prog w = .ok (.tuple #[.nilIface, .bool false]) w := by kernel_rfl

/-- The claim's own word. -/
def ClaimIs (a : Nat → Addr) (w : World) : Prop := ∀ (p j : Nat) (c : Int) (W : World), 1 ≤ j → j ≤ 11 → Below w.heap.size w W → W.cell? ⟨p, 0, none⟩ = some (.int .i64 c) →
  Calls Tryd.prog 97 #[.pointer (some ⟨p, 0, none⟩), .iface 94 (.pointer (some (a j)))] W fun e w' => e = .returned (.bool (decide ((j : Int) = c))) ∧ Below W.heap.size W w'

theorem trans_b {w W w' : World} (h : Below w.heap.size w W) (k : Below W.heap.size W w') : Below w.heap.size w w' := h.trans (k.mono h.size)

/-- Errors with no unequal sentinels: '==' of the two. -/
theorem eq_at (a : Nat → Addr) (w : World) (hE : Errs a w) (j k : Nat) (hj0 : 1 ≤ j) (hj1 : j ≤ 11) (hk0 : 1 ≤ k) (hk1 : k ≤ 11) :
    (binOp .eql 27 (.iface 94 (.pointer (some (a k)))) (.iface 94 (.pointer (some (a j))))).run Tryd.prog w = .ok (.bool (decide (j = k))) w := by
  obtain ⟨i, hi, hcmp⟩ := Option.map_eq_some_iff.1 isComp
  obtain ⟨q, hq, hqs⟩ := Option.map_eq_some_iff.1 isSize
  by_cases e : j = k
  · subst e
    rw [run_eql_iface_ptr_same (P := Tryd.prog) w (a j) Tryd.underlying27 Tryd.underlying94 hi hcmp hq]; simp
  · obtain ⟨c1, t1, g1⟩ := hE.b k hk0 hk1
    obtain ⟨c2, t2, g2⟩ := hE.b j hj0 hj1
    rw [run_eql_iface_ptr_other (P := Tryd.prog) w Tryd.underlying27 Tryd.underlying94 hi hcmp hq (by rw [hqs]; decide) (hE.ne k j hk0 hk1 hj0 hj1 (Ne.symm e)) g1 g2]; simp [e]
theorem eq_other (a : Nat → Addr) (w : World) (hE : Errs a w) (j : Nat) (ad : Addr) (hj0 : 1 ≤ j) (hj1 : j ≤ 11) (h : Holds a w (.other ad)) :
    (binOp .eql 27 (.iface 94 (.pointer (some ad))) (.iface 94 (.pointer (some (a j))))).run Tryd.prog w = .ok (.bool false) w := by
  obtain ⟨i, hi, hcmp⟩ := Option.map_eq_some_iff.1 isComp
  obtain ⟨q, hq, hqs⟩ := Option.map_eq_some_iff.1 isSize
  simp only [Holds] at h
  obtain ⟨⟨c1, t1, g1⟩, hne⟩ := h
  obtain ⟨c2, t2, g2⟩ := hE.b j hj0 hj1
  exact run_eql_iface_ptr_other (P := Tryd.prog) w Tryd.underlying27 Tryd.underlying94 hi hcmp hq (by rw [hqs]; decide) (hne j hj0 hj1) g1 g2
theorem nil_eq (T : TypeId) (v : Value) (w : World) : (binOp .eql 27 (.iface T v) .nilIface).run Tryd.prog w = .ok (.bool false) w := by
  have h : ∀ d : Nat, (Op.equalIn (d + 1) 27 (.iface T v) .nilIface).run Tryd.prog w = .ok false w := fun d => by simp [Op.equalIn, run_underlying Tryd.underlying27]
  simp only [binOp]
  simp [Op.equal, Op.maxDepth, h 9999]
theorem val_nil (a : Nat → Addr) (T : ET) (h : T ≠ .nil) : ∃ t v, T.val a = .iface t v := by cases T <;> first | exact absurd rfl h | exact ⟨_, _, rfl⟩
theorem nil_test (a : Nat → Addr) (T : ET) (h : T ≠ .nil) (w : World) : (binOp .eql 27 (T.val a) .nilIface).run Tryd.prog w = .ok (.bool false) w := by
  obtain ⟨t, v, e⟩ := val_nil a T h
  rw [e]; exact nil_eq t v w

theorem hasL_take (l : List ET) (j c : Nat) (h : c < l.length) : ET.hasL (l.take (c + 1)) j = (ET.hasL (l.take c) j || (l[c]).has j) := by
  simp only [ET.hasL_any]
  rw [List.take_succ_eq_append_getElem h, List.any_append]
  simp
theorem hasL_true (l : List ET) (j c : Nat) (h : c < l.length) (h1 : (l[c]).has j = true) : ET.hasL l j = true := by
  rw [ET.hasL_any, List.any_eq_true]
  exact ⟨l[c], List.getElem_mem h, h1⟩
set_option maxHeartbeats 2000000 in
theorem is_any (a : Nat → Addr) (w : World) (hE : Errs a w) (hC : ClaimIs a w) (j : Nat) (hj0 : 1 ≤ j) (hj1 : j ≤ 11) : ∀ (n : Nat) (T : ET) (W : World), T.sz ≤ n → Below w.heap.size w W → Holds a W T →
    Calls Tryd.prog 49 #[T.val a, .iface 94 (.pointer (some (a j))), .bool true] W fun e w' => e = .returned (.bool (T.has j)) ∧ Below W.heap.size W w' := by
  intro n
  induction n with
  | zero => intro T W hT; have := T.sz_pos; omega
  | succ n ih =>
    intro T W hT hb hH
    have ihH := Lib.hid ih
    have hEH : Hid (∀ W, Below w.heap.size w W → Errs a W) := Lib.hid fun W hb => hE.below hb
    have hCH := Lib.hid hC
    clear ih hE hC
    generalize hb0 : T.has j = b0
    have HB0 := Lib.hid hb0
    have HT := Lib.hid hT
    have HH := Lib.hid hH
    have HBW := Lib.hid hb
    have HB := Lib.hid (Below.refl W.heap.size W)
    clear hb0 hT hH hb
    generalize hv : T.val a = v
    have HV := Lib.hid hv
    clear hv
    go_enter Tryd.func49, Tryd.ntmps49
    go_wp2
    go_loopg [0] (n + 1) (fun k v W1 => ∃ T : ET, Hid (T.val a = v) ∧ Hid (T.sz ≤ k ∧ k ≤ n + 1) ∧ Hid (T.has j = b0) ∧ Hid (Below W.heap.size W W1) ∧ Hid (Holds a W1 T))
    case atStart => exact ⟨T, HV, Lib.hid ⟨HT.out, Nat.le_refl _⟩, HB0, HB, HH⟩
    case round =>
      clear HB0 HT HH HB HV
      obtain ⟨T, HV, HT, HB0, HB, HH⟩ := hrel
      cases T with
      | nil =>
        obtain rfl := HV.out
        have hb0 := HB0.out
        simp only [ET.has] at hb0
        subst hb0
        have q0 := run_eql_iface_nil_left (P := Tryd.prog) wr 94 (.pointer (some (a j))) Tryd.underlying27
        have q1 := nil113
        have q2 := nil109
        have q3 := nil111
        simp only [ET.val]
        go_wp2
        go_ret
        exact ⟨rfl, HB.out⟩
      | sent k =>
        obtain rfl := HV.out
        have hb0 := HB0.out
        simp only [ET.has] at hb0
        have hk := HH.out
        simp only [Holds] at hk
        have q0 := eq_at a wr (hEH.out wr (trans_b HBW.out HB.out)) j k hj0 hj1 hk.1 hk.2
        have q1 := noIsE
        have q2 := noUnwrapE
        have q3 := noUnwrapsE
        clear hk
        simp only [ET.val]
        rw [hb0] at q0
        cases b0 with
        | true =>
          clear hb0
          go_wp2
          go_ret
          exact ⟨rfl, HB.out⟩
        | false =>
          clear hb0
          go_wp2
          go_ret
          exact ⟨rfl, HB.out⟩
      | other ad =>
        obtain rfl := HV.out
        have hb0 := HB0.out
        simp only [ET.has] at hb0
        subst hb0
        have q0 := eq_other a wr (hEH.out wr (trans_b HBW.out HB.out)) j ad hj0 hj1 HH.out
        have q1 := noIsE
        have q2 := noUnwrapE
        have q3 := noUnwrapsE
        simp only [ET.val]
        go_wp2
        go_ret
        exact ⟨rfl, HB.out⟩
      | fault p q s e =>
        obtain rfl := HV.out
        have hk := HH.out
        simp only [Holds] at hk
        obtain ⟨h1, h2, h3, h4⟩ := hk
        have H4 := Lib.hid h4
        have q0 := run_eql_iface_types (P := Tryd.prog) 41 94 (.pointer (some ⟨p, 0, none⟩)) (.pointer (some (a j))) Tryd.underlying27 (by decide) wr
        have q1 := noIsF
        have q2 := hasUnwrapF
        have q3 := methodUnwrapF
        clear h2 h3 h4
        simp only [ET.val]
        by_cases e0 : e = .nil
        · subst e0
          have hb0 : b0 = false := HB0.out.symm
          subst hb0
          simp only [ET.val] at h1
          go_wp2
          go_ret
          exact ⟨rfl, HB.out⟩
        · obtain ⟨t, x, hv⟩ := val_nil a e e0
          rw [hv] at h1
          have HV2 := Lib.hid hv
          have hsz := HT.out
          simp only [ET.sz] at hsz
          have HS : Hid (e.sz ≤ e.sz ∧ e.sz ≤ n + 1) := Lib.hid ⟨Nat.le_refl _, by omega⟩
          have HL : Hid (e.sz < gk) := Lib.hid (by omega)
          clear hsz hv
          go_wp2
          go_roundg e.sz
          case measure => exact HL.out
          case rel => exact ⟨e, HV2, HS, HB0, HB, H4⟩
      | one p e =>
        obtain rfl := HV.out
        have hk := HH.out
        simp only [Holds] at hk
        obtain ⟨h1, h4⟩ := hk
        have H4 := Lib.hid h4
        have q0 := run_eql_iface_types (P := Tryd.prog) 67 94 (.pointer (some ⟨p, 0, none⟩)) (.pointer (some (a j))) Tryd.underlying27 (by decide) wr
        have q1 := noIsO
        have q2 := hasUO
        have q3 := methodUO
        clear h4
        simp only [ET.val]
        by_cases e0 : e = .nil
        · subst e0
          have hb0 : b0 = false := HB0.out.symm
          subst hb0
          simp only [ET.val] at h1
          go_wp2
          go_ret
          exact ⟨rfl, HB.out⟩
        · obtain ⟨t, x, hv⟩ := val_nil a e e0
          rw [hv] at h1
          have HV2 := Lib.hid hv
          have hsz := HT.out
          simp only [ET.sz] at hsz
          have HS : Hid (e.sz ≤ e.sz ∧ e.sz ≤ n + 1) := Lib.hid ⟨Nat.le_refl _, by omega⟩
          have HL : Hid (e.sz < gk) := Lib.hid (by omega)
          clear hsz hv
          go_wp2
          go_roundg e.sz
          case measure => exact HL.out
          case rel => exact ⟨e, HV2, HS, HB0, HB, H4⟩
      | many p l =>
        obtain rfl := HV.out
        have hk := HH.out
        simp only [Holds] at hk
        obtain ⟨⟨v, h1, h2⟩, h3⟩ := hk
        have q0 := run_eql_iface_types (P := Tryd.prog) 70 94 (.pointer (some ⟨p, 0, none⟩)) (.pointer (some (a j))) Tryd.underlying27 (by decide) wr
        have q1 := noIsM
        have q2 := noUM
        have q3 := hasUsM
        have q4 := methodUM
        have hsz := HT.out
        simp only [ET.sz] at hsz
        have HS : Hid (∀ e, e ∈ l → e.sz ≤ n) := Lib.hid fun e he => by have := ET.szL_mem he; omega
        have H3 : Hid (∀ e, e ∈ l → Holds a wr e) := Lib.hid fun e he => h3.mem he
        have hb0 := HB0.out
        simp only [ET.has] at hb0
        clear hsz h3
        simp only [ET.val]
        rcases h2 with ⟨rfl, hl⟩ | ⟨g, cp, rfl, hlc, hcm, hcell⟩
        · obtain rfl : l = [] := by simpa using hl
          have e : b0 = false := hb0.symm
          subst e
          clear hb0 hl
          go_wp2
          refine wp_loop_rounds 1 ?_
          rw [rounds_succ]
          go_wp2
          go_ret
          exact ⟨rfl, HB.out⟩
        · rw [List.length_map] at h1 hlc
          obtain ⟨m, hm⟩ : ∃ m, l.length = m := ⟨_, rfl⟩
          rw [hm] at h1 hlc
          have HC : Hid (∀ (W : World) (i : Nat) (h : i < l.length), Below wr.heap.size wr W → W.cell? ⟨g, i, none⟩ = some ((l[i]).val a)) := Lib.hid fun W i h hb => keep1 hb (hcell i _ (by simp [h]))
          have HM := Lib.hid hm
          have HB1 := Lib.hid hb0
          have hm63 : m ≤ 9223372036854775807 := by omega
          clear hm hcell hb0 hlc hcm
          obtain ⟨wo, rfl⟩ : ∃ wo : World, wo = wr := ⟨_, rfl⟩
          go_wp2
          go_loopw [45] (fun i W => ∃ c : Nat, i = .int .i64 c ∧ c ≤ m ∧ Hid (ET.hasL (l.take c) j = false) ∧ Hid (Below wo.heap.size wo W)) (fun i _ => m - (intOf i).toNat)
          case atStart => exact ⟨0, rfl, by omega, Lib.hid rfl, Lib.hid (Below.refl _ _)⟩
          case round =>
            obtain ⟨c, rfl, hc, HL, HW⟩ := hrel
            by_cases hlt : c < m
            · have hcl : c < l.length := by rw [HM.out]; exact hlt
              have hce := HC.out _ c hcl HW.out
              have hmem : l[c] ∈ l := List.getElem_mem hcl
              have hN := hasL_take l j c hcl
              have hN2 := hasL_true l j c hcl
              generalize l[c] = x at hce hmem hN hN2
              have hi := ihH.out x _ (HS.out _ hmem) (trans_b HBW.out (trans_b HB.out HW.out)) ((H3.out _ hmem).below HW.out)
              have HN := Lib.hid hN
              have HN2 := Lib.hid hN2
              generalize hx : x.has j = d at hi
              have HX := Lib.hid hx
              generalize x.val a = u at hce hi
              clear hcl hmem hx hN hN2
              cases d with
              | true =>
                have e : b0 = true := by rw [← HB1.out]; exact HN2.out HX.out
                subst e
                have HQ : Hid (∀ w1, Below wr.heap.size wr w1 → Below W.heap.size W w1) := Lib.hid fun w1 h => trans_b HB.out (trans_b HW.out h)
                go_wp2_with (go_at_call 49; refine hi.mono ?_; rintro e w1 ⟨rfl, hb1⟩)
                go_ret
                exact ⟨rfl, HQ.out _ hb1⟩
              | false =>
                have HN3 : Hid (ET.hasL (l.take (c + 1)) j = false) := Lib.hid (by rw [HN.out, HL.out, HX.out]; rfl)
                have HQ : Hid (∀ w1, Below wr.heap.size wr w1 → Below wo.heap.size wo w1) := Lib.hid fun w1 h => trans_b HW.out h
                go_wp2_with (go_at_call 49; refine hi.mono ?_; rintro e w1 ⟨rfl, hb1⟩)
                go_roundw
                case rel => exact ⟨c + 1, by go_num, by omega, HN3, Lib.hid (HQ.out _ hb1)⟩
                case measure => simp [intOf]; omega
            · obtain rfl : c = m := by omega
              have e : b0 = false := by
                rw [← HB1.out]
                have := HL.out
                rwa [List.take_of_length_le (by rw [HM.out]; exact Nat.le_refl _)] at this
              subst e
              go_wp2
              go_ret
              exact ⟨rfl, trans_b HB.out HW.out⟩
      | nilF =>
        obtain rfl := HV.out
        have hb0 := HB0.out
        simp only [ET.has] at hb0
        subst hb0
        have q0 := run_eql_iface_types (P := Tryd.prog) 41 94 (.pointer none) (.pointer (some (a j))) Tryd.underlying27 (by decide) wr
        have q1 := noIsF
        have q2 := hasUnwrapF
        have q3 := methodUnwrapF
        simp only [ET.val]
        go_wp2
        go_ret
        exact ⟨rfl, HB.out⟩
      | claim p c =>
        obtain rfl := HV.out
        have hb0 := HB0.out
        simp only [ET.has] at hb0
        have hk := HH.out
        simp only [Holds] at hk
        have q0 := run_eql_iface_types (P := Tryd.prog) 73 94 (.pointer (some ⟨p, 0, none⟩)) (.pointer (some (a j))) Tryd.underlying27 (by decide) wr
        have q1 := hasIsC
        have q2 := methodIC
        have q4 := noUC
        have q5 := noUsC
        have hc := hCH.out p j c wr hj0 hj1 (trans_b HBW.out HB.out) hk
        have HT2 : Hid (∀ w', Below wr.heap.size wr w' → Below W.heap.size W w') := Lib.hid fun w' h => trans_b HB.out h
        clear hk
        rw [hb0] at hc
        simp only [ET.val]
        cases b0 with
        | true =>
          clear hb0
          go_wp2_with (go_at_call 97; refine hc.mono ?_; rintro e w1 ⟨rfl, hb1⟩)
          go_ret
          exact ⟨rfl, HT2.out _ hb1⟩
        | false =>
          clear hb0
          go_wp2_with (go_at_call 97; refine hc.mono ?_; rintro e w1 ⟨rfl, hb1⟩)
          go_ret
          exact ⟨rfl, HT2.out _ hb1⟩
end Go.Proofs.YtfjgjhicinaolaaDoor
