/- errors.as of any error. -/
import Derived.Test.YtfjgjhicinaolaaDoorC
namespace Go.Proofs.YtfjgjhicinaolaaDoor
open Go.RowKit Go.Extern.Stop Go.Stop Go.Extern
set_option maxRecDepth 100000
set_option linter.unusedVariables false
set_option linter.unusedSimpArgs false
set_option linter.unnecessarySimpa false

mutual
/-- The Fault that errors.As finds. -/
def ET.as : ET → Option ET
  | .fault p n s e => some (.fault p n s e)
  | .one _ e => e.as
  | .many _ l => ET.asL l
  | .nilF => some .nilF
  | _ => none
def ET.asL : List ET → Option ET
  | [] => none
  | e :: l => match e.as with
    | some x => some x
    | none => ET.asL l
end
theorem asL_none_take (l : List ET) (c : Nat) (h : c < l.length) (h1 : ET.asL (l.take c) = none) : ET.asL (l.take (c + 1)) = (l[c]).as := by
  induction l generalizing c with
  | nil => simp at h
  | cons e l ih =>
    cases c with
    | zero => simp [ET.asL]; cases e.as <;> rfl
    | succ c =>
      simp only [List.take_succ_cons, ET.asL] at h1 ⊢
      cases he : e.as with
      | some x => rw [he] at h1; simp at h1
      | none =>
        rw [he] at h1
        simpa using ih c (by simpa using h) (by simpa using h1)
theorem asL_some (l : List ET) (c : Nat) (h : c < l.length) (h1 : ET.asL (l.take c) = none) (x : ET) (h2 : (l[c]).as = some x) : ET.asL l = some x := by
  induction l generalizing c with
  | nil => simp at h
  | cons e l ih =>
    cases c with
    | zero => simp [ET.asL] at h2 ⊢; rw [h2]
    | succ c =>
      simp only [List.take_succ_cons, ET.asL] at h1
      cases he : e.as with
      | some x => rw [he] at h1; simp at h1
      | none =>
        rw [he] at h1
        simp only [ET.asL, he]
        exact ih c (by simpa using h) (by simpa using h1) (by simpa using h2)
/-- The pointer that is written. -/
def ET.ptr : ET → Value
  | .fault p _ _ _ => .pointer (some ⟨p, 0, none⟩)
  | _ => .pointer none

theorem noAsO (v : Value) (xT : TypeId) (w : World) : (Instr.typeAssert (.iface 67 v) xT 106 true).run Tryd.prog w = .ok (.tuple #[.nilIface, .bool false]) w := run_typeAssert_lacksB Tryd.underlying106 (by kernel_rfl) (by kernel_rfl) v xT w
theorem noAsM (v : Value) (xT : TypeId) (w : World) : (Instr.typeAssert (.iface 70 v) xT 106 true).run Tryd.prog w = .ok (.tuple #[.nilIface, .bool false]) w := run_typeAssert_lacksB Tryd.underlying106 (by kernel_rfl) (by kernel_rfl) v xT w
theorem noAsC (v : Value) (xT : TypeId) (w : World) : (Instr.typeAssert (.iface 73 v) xT 106 true).run Tryd.prog w = .ok (.tuple #[.nilIface, .bool false]) w := run_typeAssert_lacksB Tryd.underlying106 (by kernel_rfl) (by kernel_rfl) v xT w
theorem typeOfO (v : Value) (w : World) : (ReflectliteType.typeOf #[.iface 67 v]).run Tryd.prog w = .ok (.iface 102 (.agg #[.pointer (some ⟨16, 67, none⟩)])) w := by kernel_rfl
theorem typeOfM (v : Value) (w : World) : (ReflectliteType.typeOf #[.iface 70 v]).run Tryd.prog w = .ok (.iface 102 (.agg #[.pointer (some ⟨16, 70, none⟩)])) w := by kernel_rfl
theorem typeOfC (v : Value) (w : World) : (ReflectliteType.typeOf #[.iface 73 v]).run Tryd.prog w = .ok (.iface 102 (.agg #[.pointer (some ⟨16, 73, none⟩)])) w := by kernel_rfl
theorem assignableO (w : World) : (ReflectliteType.relation "AssignableTo" ReflectliteType.assignableTo #[.agg #[.pointer (some ⟨16, 67, none⟩)], .iface 102 (.agg #[.pointer (some ⟨16, 41, none⟩)])]).run Tryd.prog w = .ok (.bool false) w := by kernel_rfl
theorem assignableM (w : World) : (ReflectliteType.relation "AssignableTo" ReflectliteType.assignableTo #[.agg #[.pointer (some ⟨16, 70, none⟩)], .iface 102 (.agg #[.pointer (some ⟨16, 41, none⟩)])]).run Tryd.prog w = .ok (.bool false) w := by kernel_rfl
theorem assignableC (w : World) : (ReflectliteType.relation "AssignableTo" ReflectliteType.assignableTo #[.agg #[.pointer (some ⟨16, 73, none⟩)], .iface 102 (.agg #[.pointer (some ⟨16, 41, none⟩)])]).run Tryd.prog w = .ok (.bool false) w := by kernel_rfl
theorem valueOfN (w : World) : (ReflectliteValue.unpack (.iface 41 (.pointer none))).run Tryd.prog w
    = .ok (.agg #[.pointer (some ⟨16, 41, none⟩), .pointer (some ⟨w.heap.size, 0, none⟩), .int .u64 150]) (w.alloc (.cells #[.pointer none] 41)) := by kernel_rfl
theorem setN (ta b : Addr) (old : Value) (W : World) (hb : W.cell? b = some (.pointer none)) (ht : W.cell? ta = some old) (hf : W.frozen? ta = false) :
    (ReflectliteValue.set #[.agg #[.pointer (some ⟨16, 41, none⟩), .pointer (some ta), .int .u64 406], .agg #[.pointer (some ⟨16, 41, none⟩), .pointer (some b), .int .u64 150]]).run Tryd.prog W
      = .ok (.tuple #[]) (W.setCell ta (.pointer none)) := by
  rw [rls]
  simp only [Sem.run_bind, partsPa, partsP, Result.andThen]
  simp [ReflectliteValue.flagAddr, loadVar, isAgg, underlying, Tryd.underlying41, hb, Result.andThen, directP, storeVar, Value.cells, storeCells, Addr.add]
  rw [run_store Tryd.prog W ta _ _ (by rfl)]
  simp [ht, hf]

/-- What errors.as leaves. -/
def AsPost (t : Addr) (W : World) (o : Option ET) (e : Ending) (w' : World) : Prop :=
  match o with
  | none => e = .returned (.bool false) ∧ Below W.heap.size W w'
  | some F => e = .returned (.bool true) ∧ ∃ W1, Below W.heap.size W W1 ∧ W1.setCell t F.ptr = w'

def asV (vb : Nat) : Value := .agg #[.pointer (some ⟨16, 43, none⟩), .pointer (some ⟨vb, 0, none⟩), .int .u64 150]
def asV2 (vb : Nat) : Array Value := #[.pointer (some ⟨16, 43, none⟩), .pointer (some ⟨vb, 0, none⟩), .int .u64 150]

/-- The store of what is found. -/
structure AsSeat (t : Addr) (vb : Nat) (W : World) : Prop where
  c : W.cell? ⟨vb, 0, none⟩ = some (.pointer (some t))
  o : ∃ old, W.cell? t = some old
  f : W.frozen? t = false
theorem AsSeat.below {t : Addr} {vb : Nat} {W W1 : World} (h : AsSeat t vb W) (hb : Below W.heap.size W W1) : AsSeat t vb W1 := by
  obtain ⟨old, ho⟩ := h.o
  exact ⟨keep1 hb h.c, ⟨old, keep1 hb ho⟩, (hb.frozen (World.block_lt_of_cell? W t ho)).trans h.f⟩

theorem AsPost.trans {t : Addr} {W W1 w' : World} {o : Option ET} {e : Ending} (hb : Below W.heap.size W W1) (h : AsPost t W1 o e w') : AsPost t W o e w' := by
  cases o with
  | none => exact ⟨h.1, trans_b hb h.2⟩
  | some F =>
    obtain ⟨h1, W2, h2, h3⟩ := h
    exact ⟨h1, W2, trans_b hb h2, h3⟩

set_option maxHeartbeats 2000000 in
theorem as_any (a : Nat → Addr) (t : Addr) (tg : Value) (vb : Nat) : ∀ (n : Nat) (T : ET) (W : World), T.sz ≤ n → T ≠ .nil → Holds a W T → AsSeat t vb W →
    Calls Tryd.prog 46 #[T.val a, tg, .agg #[.pointer (some ⟨16, 43, none⟩), .pointer (some ⟨vb, 0, none⟩), .int .u64 150], .iface 102 (.agg #[.pointer (some ⟨16, 41, none⟩)])] W (AsPost t W T.as) := by
  intro n
  induction n with
  | zero => intro T W hT; have := T.sz_pos; omega
  | succ n ih =>
    intro T W hT hN hH hS
    have ihH := Lib.hid ih
    clear ih
    generalize hb0 : T.as = b0
    have HB0 := Lib.hid hb0
    have HT := Lib.hid hT
    have HH := Lib.hid hH
    have HS := Lib.hid hS
    have HN := Lib.hid hN
    clear hb0 hT hH hS hN
    generalize hv : T.val a = v
    have HV := Lib.hid hv
    clear hv
    have h43 := @run_callFunc_extern Tryd.prog 43 _ (fun args => ReflectliteValue.unpack (args.getD 0 (.tuple #[]))) Tryd.func43 (by kernel_rfl) (by kernel_rfl) (by kernel_rfl) (by kernel_rfl)
    have h48 := @run_callFunc_extern Tryd.prog 48 _ ReflectliteType.typeOf Tryd.func48 (by kernel_rfl) (by kernel_rfl) (by kernel_rfl) (by kernel_rfl)
    have h103 := @run_callFunc_extern Tryd.prog 103 _ (ReflectliteType.relation "AssignableTo" ReflectliteType.assignableTo) Tryd.func103 (by kernel_rfl) (by kernel_rfl) (by kernel_rfl) (by kernel_rfl)
    have h51 := @run_callFunc_extern Tryd.prog 51 _ (ReflectliteValue.method (ReflectliteValue.valueError "reflectlite.Value.Elem" 0) ReflectliteValue.elem) Tryd.func51 (by kernel_rfl) (by kernel_rfl) (by kernel_rfl) (by kernel_rfl)
    have h52 := @run_callFunc_extern Tryd.prog 52 _ ReflectliteValue.set Tryd.func52 (by kernel_rfl) (by kernel_rfl) (by kernel_rfl) (by kernel_rfl)
    have mA := methodAssignableTo
    go_enter Tryd.func46, Tryd.ntmps46
    go_upto_region 1 with fail
    have HW : Hid (Below W.heap.size W (W.alloc (.cells (asV2 vb) 85))) := Lib.hid ((Below.refl _ _).alloc (Nat.le_refl _) _)
    have HQ : Hid (∀ w1, Below (W.alloc (.cells (asV2 vb) 85)).heap.size (W.alloc (.cells (asV2 vb) 85)) w1 → w1.cell? ⟨W.heap.size, 0, none⟩ = some (.pointer (some ⟨16, 43, none⟩)) ∧ w1.cell? ⟨W.heap.size, 1, none⟩ = some (.pointer (some ⟨vb, 0, none⟩)) ∧ w1.cell? ⟨W.heap.size, 2, none⟩ = some (.int .u64 150)) :=
      Lib.hid fun w1 hb => ⟨keep1 hb (by rw [World.cell?_alloc_new]; rfl), keep1 hb (by rw [World.cell?_alloc_new]; rfl), keep1 hb (by rw [World.cell?_alloc_new]; rfl)⟩
    show Code.wp _ _ _ _ (W.alloc (.cells (asV2 vb) 85))
    generalize (W.alloc (.cells (asV2 vb) 85)) = W0 at HW HQ ⊢
    go_loopg [0] (n + 1) (fun k v W1 => ∃ T : ET, Hid (T.val a = v) ∧ Hid (T.sz ≤ k ∧ k ≤ n + 1) ∧ Hid (T ≠ .nil) ∧ Hid (T.as = b0) ∧ Hid (Below W0.heap.size W0 W1) ∧ Hid (Holds a W1 T))
    case atStart => exact ⟨T, HV, Lib.hid ⟨HT.out, Nat.le_refl _⟩, HN, HB0, Lib.hid (Below.refl _ _), Lib.hid (HH.out.below HW.out)⟩
    case round =>
      clear HB0 HT HH HV HN
      obtain ⟨T, HV, HT, HN, HB0, HB, HH⟩ := hrel
      have HF : Hid (∀ w1, Below wr.heap.size wr w1 → AsPost t W none (.returned (.bool false)) w1) := Lib.hid fun w1 h => ⟨rfl, trans_b HW.out (trans_b HB.out h)⟩
      have hs := HS.out.below (trans_b HW.out HB.out)
      obtain ⟨k0, k1, k2⟩ := HQ.out wr HB.out
      cases T with
      | nil => exact absurd rfl HN.out
      | sent k =>
        obtain rfl := HV.out
        obtain rfl := HB0.out
        have q1 := isTypeOf
        have q2 := assignableE
        have q3 := noAsE
        have q4 := noUnwrapE
        have q5 := noUnwrapsE
        clear hs
        simp only [ET.val]
        go_wp2
        go_ret
        exact HF.out _ (Below.refl _ _)
      | other ad =>
        obtain rfl := HV.out
        obtain rfl := HB0.out
        have q1 := isTypeOf
        have q2 := assignableE
        have q3 := noAsE
        have q4 := noUnwrapE
        have q5 := noUnwrapsE
        clear hs
        simp only [ET.val]
        go_wp2
        go_ret
        exact HF.out _ (Below.refl _ _)
      | fault p q s e =>
        obtain rfl := HV.out
        obtain ⟨old, ho⟩ := hs.o
        have hlt : t.block < wr.heap.size := World.block_lt_of_cell? wr t ho
        have HB2 := Lib.hid (HB0.out.symm : b0 = some (.fault p q s e))
        have q1 := typeOfP
        have q2 := assignableP
        have q3 := valueOfP
        have el := elemVPP ⟨vb, 0, none⟩ t wr hs.c
        have st := setP t ⟨wr.heap.size, 0, none⟩ ⟨p, 0, none⟩ old (wr.alloc (.cells #[.pointer (some ⟨p, 0, none⟩)] 41)) (by simp) (by rw [World.cell?_alloc_lt _ _ t hlt]; exact ho) (by rw [World.frozen?_alloc_old _ _ t (Nat.ne_of_lt hlt)]; exact hs.f)
        have HR : Hid (AsPost t W b0 (.returned (.bool true)) ((wr.alloc (.cells #[.pointer (some ⟨p, 0, none⟩)] 41)).setCell t (.pointer (some ⟨p, 0, none⟩)))) := Lib.hid (by
          rw [HB2.out]
          exact ⟨rfl, _, trans_b HW.out (trans_b HB.out ((Below.refl _ _).alloc (Nat.le_refl _) _)), rfl⟩)
        clear hs ho hlt
        simp only [ET.val]
        go_wp2
        go_ret
        exact HR.out
      | one p e =>
        obtain rfl := HV.out
        have hk := HH.out
        simp only [Holds] at hk
        obtain ⟨h1, h4⟩ := hk
        have H4 := Lib.hid h4
        have q1 := typeOfO
        have q2 := assignableO
        have q3 := noAsO
        have q4 := hasUO
        have q5 := methodUO
        clear h4 hs
        simp only [ET.val]
        by_cases e0 : e = .nil
        · subst e0
          have e : b0 = none := HB0.out.symm
          subst e
          simp only [ET.val] at h1
          go_wp2
          go_ret
          exact HF.out _ (Below.refl _ _)
        · obtain ⟨t', x, hv⟩ := val_nil a e e0
          rw [hv] at h1
          have HV2 := Lib.hid hv
          have hsz := HT.out
          simp only [ET.sz] at hsz
          have HS : Hid (e.sz ≤ e.sz ∧ e.sz ≤ n + 1) := Lib.hid ⟨Nat.le_refl _, by omega⟩
          have HL : Hid (e.sz < gk) := Lib.hid (by omega)
          have HN2 := Lib.hid e0
          clear hsz hv e0
          go_wp2
          go_roundg e.sz
          case measure => exact HL.out
          case rel => exact ⟨e, HV2, HS, HN2, HB0, HB, H4⟩
      | many p l =>
        obtain rfl := HV.out
        have hk := HH.out
        simp only [Holds] at hk
        obtain ⟨⟨v, h1, h2⟩, h3⟩ := hk
        have q1 := typeOfM
        have q2 := assignableM
        have q3 := noAsM
        have q4 := noUM
        have q5 := hasUsM
        have q6 := methodUM
        have hsz := HT.out
        simp only [ET.sz] at hsz
        have HSZ : Hid (∀ e, e ∈ l → e.sz ≤ n) := Lib.hid fun e he => by have := ET.szL_mem he; omega
        have H3 : Hid (∀ e, e ∈ l → Holds a wr e) := Lib.hid fun e he => h3.mem he
        have hb0 := HB0.out
        simp only [ET.as] at hb0
        clear hsz h3 hs
        simp only [ET.val]
        rcases h2 with ⟨rfl, hl⟩ | ⟨g, cp, rfl, hlc, hcm, hcell⟩
        · obtain rfl : l = [] := by simpa using hl
          have e : b0 = none := hb0.symm
          subst e
          clear hb0 hl
          go_wp2
          refine wp_loop_rounds 1 ?_
          rw [rounds_succ]
          go_wp2
          go_ret
          exact HF.out _ (Below.refl _ _)
        · rw [List.length_map] at h1 hlc
          obtain ⟨m, hm⟩ : ∃ m, l.length = m := ⟨_, rfl⟩
          rw [hm] at h1 hlc
          have HC : Hid (∀ (W : World) (i : Nat) (h : i < l.length), Below wr.heap.size wr W → W.cell? ⟨g, i, none⟩ = some ((l[i]).val a)) := Lib.hid fun W i h hb => keep1 hb (hcell i _ (by simp [h]))
          have HM := Lib.hid hm
          have HB1 := Lib.hid hb0
          have hm63 : m ≤ 9223372036854775807 := by omega
          clear hm hcell hb0 hlc hcm
          obtain ⟨wo, rfl⟩ : ∃ wo : World, wo = wr := ⟨_, rfl⟩
          go_wp2
          go_loopw [50] (fun i W => ∃ c : Nat, i = .int .i64 c ∧ c ≤ m ∧ Hid (ET.asL (l.take c) = none) ∧ Hid (Below wo.heap.size wo W)) (fun i _ => m - (intOf i).toNat)
          case atStart => exact ⟨0, rfl, by omega, Lib.hid rfl, Lib.hid (Below.refl _ _)⟩
          case round =>
            clear k0 k1 k2 h1
            obtain ⟨c, rfl, hc, HL, HWW⟩ := hrel
            obtain ⟨k0, k1, k2⟩ := HQ.out wr (trans_b HB.out HWW.out)
            by_cases hlt : c < m
            · have hcl : c < l.length := by rw [HM.out]; exact hlt
              have hce := HC.out _ c hcl HWW.out
              have hmem : l[c] ∈ l := List.getElem_mem hcl
              have hN := asL_none_take l c hcl HL.out
              have hN2 := asL_some l c hcl HL.out
              generalize l[c] = x at hce hmem hN hN2
              by_cases hx0 : x = .nil
              · subst hx0
                simp only [ET.val] at hce
                have HN3 : Hid (ET.asL (l.take (c + 1)) = none) := Lib.hid hN
                clear hcl hmem hN hN2
                go_wp2
                go_roundw
                case rel => exact ⟨c + 1, by go_num, by omega, HN3, HWW⟩
                case measure => simp [intOf]; omega
              · have hi := ihH.out x wr (HSZ.out _ hmem) hx0 ((H3.out _ hmem).below HWW.out) (HS.out.below (trans_b HW.out (trans_b HB.out HWW.out)))
                obtain ⟨t', y, hv⟩ := val_nil a x hx0
                rw [hv] at hce hi
                have HN := Lib.hid hN
                have HN2 := Lib.hid hN2
                generalize hx : x.as = d at hi
                have HX := Lib.hid hx
                clear hcl hmem hx hN hN2 hx0 hv
                cases d with
                | some F =>
                  have e : b0 = some F := by rw [← HB1.out]; exact HN2.out F HX.out
                  subst e
                  have HQ2 : Hid (∀ e w1, AsPost t wr (some F) e w1 → AsPost t W (some F) e w1) := Lib.hid fun e w1 h => AsPost.trans (trans_b HW.out (trans_b HB.out HWW.out)) h
                  go_wp2_with (go_at_call 46; refine hi.mono ?_; rintro e w1 hp; have hp2 := HQ2.out _ _ hp; obtain ⟨he, hp3⟩ := hp2; have HP3 := Lib.hid hp3; clear hp hp3; subst he)
                  go_ret
                  exact ⟨rfl, HP3.out⟩
                | none =>
                  have HN3 : Hid (ET.asL (l.take (c + 1)) = none) := Lib.hid (by rw [HN.out, HX.out])
                  have HQ2 : Hid (∀ w1, Below wr.heap.size wr w1 → Below wo.heap.size wo w1) := Lib.hid fun w1 h => trans_b HWW.out h
                  go_wp2_with (go_at_call 46; refine hi.mono ?_; rintro e w1 ⟨he, hb1⟩; have HB3 := Lib.hid (HQ2.out _ hb1); clear hb1; subst he)
                  go_roundw
                  case rel => exact ⟨c + 1, by go_num, by omega, HN3, HB3⟩
                  case measure => simp [intOf]; omega
            · obtain rfl : c = m := by omega
              have e : b0 = none := by
                rw [← HB1.out]
                have := HL.out
                rwa [List.take_of_length_le (by rw [HM.out]; exact Nat.le_refl _)] at this
              subst e
              go_wp2
              go_ret
              exact HF.out _ HWW.out
      | nilF =>
        obtain rfl := HV.out
        obtain ⟨old, ho⟩ := hs.o
        have hlt : t.block < wr.heap.size := World.block_lt_of_cell? wr t ho
        have HB2 := Lib.hid (HB0.out.symm : b0 = some (.nilF))
        have q1 := typeOfP
        have q2 := assignableP
        have q3 := valueOfN
        have el := elemVPP ⟨vb, 0, none⟩ t wr hs.c
        have st := setN t ⟨wr.heap.size, 0, none⟩ old (wr.alloc (.cells #[.pointer none] 41)) (by simp) (by rw [World.cell?_alloc_lt _ _ t hlt]; exact ho) (by rw [World.frozen?_alloc_old _ _ t (Nat.ne_of_lt hlt)]; exact hs.f)
        have HR : Hid (AsPost t W b0 (.returned (.bool true)) ((wr.alloc (.cells #[.pointer none] 41)).setCell t (.pointer none))) := Lib.hid (by
          rw [HB2.out]
          exact ⟨rfl, _, trans_b HW.out (trans_b HB.out ((Below.refl _ _).alloc (Nat.le_refl _) _)), rfl⟩)
        clear hs ho hlt
        simp only [ET.val]
        go_wp2
        go_ret
        exact HR.out
      | claim p c =>
        obtain rfl := HV.out
        obtain rfl := HB0.out
        have q1 := typeOfC
        have q2 := assignableC
        have q3 := noAsC
        have q4 := noUC
        have q5 := noUsC
        clear hs
        simp only [ET.val]
        go_wp2
        go_ret
        exact HF.out _ (Below.refl _ _)
end Go.Proofs.YtfjgjhicinaolaaDoor
