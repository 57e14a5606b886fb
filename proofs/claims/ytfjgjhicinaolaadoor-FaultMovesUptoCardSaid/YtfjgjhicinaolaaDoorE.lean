/- errors.As; the place; At, Path, Code of any error. -/
import Derived.Test.YtfjgjhicinaolaaDoorD
namespace Go.Proofs.YtfjgjhicinaolaaDoor
open Go.RowKit Go.Extern.Stop Go.Stop Go.Extern
set_option maxRecDepth 100000
set_option linter.unusedVariables false
set_option linter.unusedSimpArgs false
set_option linter.unnecessarySimpa false

set_option maxHeartbeats 4000000 in
theorem As_any (a : Nat → Addr) (T : ET) (t : Addr) (old : Value) (w : World) (hE : Errs a w) (hT : Holds a w T) (hN : T ≠ .nil) (ht0 : w.cell? t = some old) (hf0 : w.frozen? t = false) :
    Calls Tryd.prog 21 #[T.val a, .iface 43 (.pointer (some t))] w (AsPost t w T.as) := by
  have hb0 : Below w.heap.size w ((w.alloc (.cells #[.pointer (some t)] 43)).alloc (.cells #[.pointer (some ⟨16, 43, none⟩), .pointer (some ⟨w.heap.size, 0, none⟩), .int .u64 150] 85)) := ((Below.refl _ _).alloc (Nat.le_refl _) _).alloc (by simp) _
  have hs : AsSeat t w.heap.size ((w.alloc (.cells #[.pointer (some t)] 43)).alloc (.cells #[.pointer (some ⟨16, 43, none⟩), .pointer (some ⟨w.heap.size, 0, none⟩), .int .u64 150] 85)) :=
    ⟨by rw [World.cell?_alloc_lt _ _ ⟨w.heap.size, 0, none⟩ (by simp)]; simp, ⟨old, keep1 hb0 ht0⟩, (hb0.frozen (World.block_lt_of_cell? w t ht0)).trans hf0⟩
  have hi := as_any a t (.iface 43 (.pointer (some t))) w.heap.size _ T _ (Nat.le_refl _) hN (hT.below hb0) hs
  have hg := hE.h
  have HQ : Hid (∀ e w1, AsPost t ((w.alloc (.cells #[.pointer (some t)] 43)).alloc (.cells #[.pointer (some ⟨16, 43, none⟩), .pointer (some ⟨w.heap.size, 0, none⟩), .int .u64 150] 85)) T.as e w1 → AsPost t w T.as e w1) := Lib.hid fun e w1 h => AsPost.trans hb0 h
  have h6 := @run_callFunc_extern Tryd.prog 43 _ (fun args => ReflectliteValue.unpack (args.getD 0 (.tuple #[]))) Tryd.func43 (by kernel_rfl) (by kernel_rfl) (by kernel_rfl) (by kernel_rfl)
  have h7 := @run_callFunc_extern Tryd.prog 44 _ (ReflectliteValue.methodAny (ReflectliteValue.valueError "reflectlite.Value.Type" 0) (fun t _ _ _ => ReflectliteType.toType t)) Tryd.func44 (by kernel_rfl) (by kernel_rfl) (by kernel_rfl) (by kernel_rfl)
  have h8 := @run_callFunc_extern Tryd.prog 45 _ (ReflectliteValue.method (ReflectliteValue.valueError "reflectlite.Value.IsNil" 0) ReflectliteValue.isNil) Tryd.func45 (by kernel_rfl) (by kernel_rfl) (by kernel_rfl) (by kernel_rfl)
  have h27 := @run_callFunc_extern Tryd.prog 87 _ (ReflectliteType.abiMethod fun t => do pure (.int .u8 (← Rtype.kind t))) Tryd.func87 (by kernel_rfl) (by kernel_rfl) (by kernel_rfl) (by kernel_rfl)
  have h37 := @run_callFunc_extern Tryd.prog 105 _ (ReflectliteType.method ReflectliteType.elem) Tryd.func105 (by kernel_rfl) (by kernel_rfl) (by kernel_rfl) (by kernel_rfl)
  have h38 := @run_callFunc_extern Tryd.prog 106 _ (ReflectliteType.relation "Implements" ReflectliteType.implements_) Tryd.func106 (by kernel_rfl) (by kernel_rfl) (by kernel_rfl) (by kernel_rfl)
  have f6 := valueOfPP
  have f7 := typePP
  have mK := methodKind
  have mE := methodElem
  have mI := methodImplements
  have k27 := kindPP
  have k25 := kindP
  have e27 := elemPP
  have i25 := implementsP
  have n8 := isNilPP ⟨w.heap.size, 0, none⟩ t ((w.alloc (.cells #[.pointer (some t)] 43)).alloc (.cells #[.pointer (some ⟨16, 43, none⟩), .pointer (some ⟨w.heap.size, 0, none⟩), .int .u64 150] 85)) (by simp)
  have hlt : 11 < w.heap.size := World.block_lt_of_cell? w _ hg
  have hg2 : ((w.alloc (.cells #[.pointer (some t)] 43)).alloc (.cells #[.pointer (some ⟨16, 43, none⟩), .pointer (some ⟨w.heap.size, 0, none⟩), .int .u64 150] 85)).cell? ⟨11, 0, none⟩ = some (.iface 102 (.agg #[.pointer (some ⟨16, 27, none⟩)])) := keep1 hb0 hg
  obtain ⟨tt, x, hv⟩ := val_nil a T hN
  rw [hv] at hi ⊢
  generalize T.as = d at hi HQ ⊢
  clear hv hN hT hE hs hb0 hf0 ht0
  cases d with
  | none =>
    go_enter Tryd.func21, Tryd.ntmps21
    go_wp2_with (go_at_call 46; refine hi.mono ?_; rintro e w1 hp; have hp2 := HQ.out _ _ hp; obtain ⟨he, hp3⟩ := hp2; have HP3 := Lib.hid hp3; clear hp hp3; subst he)
    go_ret
    exact ⟨rfl, HP3.out⟩
  | some F =>
    go_enter Tryd.func21, Tryd.ntmps21
    go_wp2_with (go_at_call 46; refine hi.mono ?_; rintro e w1 hp; have hp2 := HQ.out _ _ hp; obtain ⟨he, hp3⟩ := hp2; have HP3 := Lib.hid hp3; clear hp hp3; subst he)
    go_ret
    exact ⟨rfl, HP3.out⟩
theorem As_nil (t : Value) (w : World) : Calls Tryd.prog 21 #[ET.nil.val fun _ => ⟨0, 0, none⟩, t] w fun e w' => e = .returned (.bool false) ∧ w = w' := as_nil t w

def ptrO : Option ET → Value
  | some F => F.ptr
  | none => .pointer none
def atO : Option ET → Int
  | some (.fault _ n _ _) => n
  | _ => 0
def pathO : Option ET → ByteArray
  | some (.fault _ _ s _) => s
  | _ => ⟨#[]⟩
def okO : Option ET → Bool
  | some (.fault _ _ _ _) => true
  | _ => false
theorem as_holds_n (a : Nat → Addr) (w : World) (F : ET) : ∀ (n : Nat) (T : ET), T.sz ≤ n → Holds a w T → T.as = some F → Holds a w F ∧ (F = .nilF ∨ ∃ p n s e, F = .fault p n s e) := by
  intro n
  induction n with
  | zero => intro T hT; have := T.sz_pos; omega
  | succ n ih =>
    intro T hT h hF
    cases T with
    | fault p k s e => simp only [ET.as, Option.some.injEq] at hF; subst hF; exact ⟨h, .inr ⟨_, _, _, _, rfl⟩⟩
    | nilF => simp only [ET.as, Option.some.injEq] at hF; subst hF; exact ⟨h, .inl rfl⟩
    | one p e => simp only [ET.as, Holds, ET.sz] at hF h hT; exact ih e (by omega) h.2 hF
    | many p l =>
      simp only [ET.as, Holds, ET.sz] at hF h hT
      have hl := h.2
      have : ∀ l : List ET, ET.szL l ≤ n → HoldsL a w l → ET.asL l = some F → Holds a w F ∧ (F = .nilF ∨ ∃ p n s e, F = .fault p n s e) := by
        intro l
        induction l with
        | nil => intro _ _ h; simp [ET.asL] at h
        | cons e l ihl =>
          intro hs hh hf
          simp only [ET.szL, HoldsL, ET.asL] at hs hh hf
          cases he : e.as with
          | some x => rw [he] at hf; simp only [Option.some.injEq] at hf; subst hf; exact ih e (by omega) hh.1 he
          | none => rw [he] at hf; exact ihl (by omega) hh.2 hf
      exact this l (by omega) hl hF
    | _ => simp [ET.as] at hF
theorem as_holds {a : Nat → Addr} {w : World} {T F : ET} (h : Holds a w T) (hF : T.as = some F) : Holds a w F ∧ (F = .nilF ∨ ∃ p n s e, F = .fault p n s e) := as_holds_n a w F _ T (Nat.le_refl _) h hF

/-- errors.As at a variable that was just made. -/
def MyPost (w : World) (o : Option ET) (e : Ending) (w' : World) : Prop :=
  e = .returned (.bool o.isSome) ∧ w'.cell? ⟨w.heap.size, 0, none⟩ = some (ptrO o) ∧ Below w.heap.size w w'
theorem As_my (a : Nat → Addr) (T : ET) (w : World) (hE : Errs a w) (hT : Holds a w T) :
    Calls Tryd.prog 21 #[T.val a, .iface 43 (.pointer (some ⟨w.heap.size, 0, none⟩))] (w.alloc (.cells #[.pointer none] 41)) (MyPost w T.as) := by
  have hb : Below w.heap.size w (w.alloc (.cells #[.pointer none] 41)) := (Below.refl _ _).alloc (Nat.le_refl _) _
  by_cases h : T = .nil
  · subst h
    refine (as_nil (.iface 43 (.pointer (some ⟨w.heap.size, 0, none⟩))) _).mono ?_
    rintro e w' ⟨rfl, rfl⟩
    exact ⟨rfl, by simp [ET.as, ptrO], hb⟩
  · refine (As_any a T ⟨w.heap.size, 0, none⟩ (.pointer none) _ (hE.below hb) (hT.below hb) h (by simp) (by simp)).mono ?_
    intro e w' hp
    cases hd : T.as with
    | none =>
      rw [hd] at hp
      exact ⟨hp.1, by rw [keep1 hp.2 (show _ = some (.pointer none) by simp)]; rfl, trans_b hb hp.2⟩
    | some F =>
      rw [hd] at hp
      obtain ⟨h1, W1, h2, rfl⟩ := hp
      refine ⟨h1, ?_, (trans_b hb h2).setCell (by simp) _⟩
      exact World.cell?_setCell_same _ _ _ (u := .pointer none) (keep1 h2 (by simp))
theorem place_any (a : Nat → Addr) (T : ET) (w : World) (hE : Errs a w) (hT : Holds a w T) :
    Calls Tryd.prog 40 #[T.val a] w fun e w' => e = .returned (ptrO T.as) ∧ Below w.heap.size w w' := by
  have hi := As_my a T w hE hT
  generalize T.val a = v at hi ⊢
  generalize T.as = d at hi ⊢
  clear hE hT
  cases d with
  | none =>
    go_enter Tryd.func40, Tryd.ntmps40
    go_wp2_with (go_at_call 21; refine hi.mono ?_; rintro e w1 ⟨rfl, hc, hb⟩)
    go_ret
    exact ⟨rfl, hb⟩
  | some F =>
    go_enter Tryd.func40, Tryd.ntmps40
    go_wp2_with (go_at_call 21; refine hi.mono ?_; rintro e w1 ⟨rfl, hc, hb⟩)
    go_ret
    exact ⟨rfl, hb⟩

theorem at_any (a : Nat → Addr) (T : ET) (w : World) (hE : Errs a w) (hT : Holds a w T) :
    Calls Tryd.prog 23 #[T.val a] w fun e w' => e = .returned (.tuple #[.int .i64 (atO T.as), .bool (okO T.as)]) ∧ Below w.heap.size w w' := by
  have hi := place_any a T w hE hT
  generalize T.val a = v at hi ⊢
  cases hd : T.as with
  | none =>
    rw [hd] at hi
    clear hE hT hd
    simp only [ptrO, ET.ptr] at hi
    go_enter Tryd.func23, Tryd.ntmps23
    go_wp2_with (go_at_call 40; refine hi.mono ?_; rintro e w1 ⟨rfl, hb⟩)
    go_ret2
    exact ⟨rfl, hb⟩
  | some F =>
    rw [hd] at hi
    obtain ⟨hF, hk⟩ := as_holds hT hd
    clear hE hT hd
    rcases hk with rfl | ⟨p, n, s, e, rfl⟩
    · clear hF
      simp only [ptrO, ET.ptr] at hi
      go_enter Tryd.func23, Tryd.ntmps23
      go_wp2_with (go_at_call 40; refine hi.mono ?_; rintro e w1 ⟨rfl, hb⟩)
      go_ret2
      exact ⟨rfl, hb⟩
    · simp only [Holds] at hF
      have HK : Hid (∀ W : World, Below w.heap.size w W → W.cell? ⟨p, 1, none⟩ = some (.int .i64 n)) := Lib.hid fun W hb => keep1 hb hF.2.1
      clear hF
      simp only [ptrO, ET.ptr] at hi
      go_enter Tryd.func23, Tryd.ntmps23
      go_wp2_with (go_at_call 40; refine hi.mono ?_; rintro e w1 ⟨rfl, hb⟩; have hk := HK.out w1 hb)
      go_ret2
      exact ⟨rfl, hb⟩

theorem hat_any (a : Nat → Addr) (T : ET) (w : World) (hE : Errs a w) (hT : Holds a w T) :
    Calls Tryd.prog 38 #[T.val a] w fun e w' => e = .returned (.tuple #[.int .i64 (atO T.as), .bool (okO T.as)]) ∧ Below w.heap.size w w' := by
  have hi := As_my a T w hE hT
  generalize T.val a = v at hi ⊢
  cases hd : T.as with
  | none =>
    rw [hd] at hi
    clear hE hT hd
    skip
    go_enter Tryd.func38, Tryd.ntmps38
    go_wp2_with (go_at_call 21; refine hi.mono ?_; rintro e w1 ⟨he, hc, hb⟩; simp only [ptrO, ET.ptr, Option.isSome_none, Option.isSome_some] at he hc; subst he)
    go_ret2
    exact ⟨rfl, hb⟩
  | some F =>
    rw [hd] at hi
    obtain ⟨hF, hk⟩ := as_holds hT hd
    clear hE hT hd
    rcases hk with rfl | ⟨p, n, s, e, rfl⟩
    · clear hF
      skip
      go_enter Tryd.func38, Tryd.ntmps38
      go_wp2_with (go_at_call 21; refine hi.mono ?_; rintro e w1 ⟨he, hc, hb⟩; simp only [ptrO, ET.ptr, Option.isSome_none, Option.isSome_some] at he hc; subst he)
      go_ret2
      exact ⟨rfl, hb⟩
    · simp only [Holds] at hF
      have HK : Hid (∀ W : World, Below w.heap.size w W → W.cell? ⟨p, 1, none⟩ = some (.int .i64 n)) := Lib.hid fun W hb => keep1 hb hF.2.1
      clear hF
      skip
      go_enter Tryd.func38, Tryd.ntmps38
      go_wp2_with (go_at_call 21; refine hi.mono ?_; rintro e w1 ⟨he, hc, hb⟩; simp only [ptrO, ET.ptr, Option.isSome_none, Option.isSome_some] at he hc; subst he; have hk := HK.out w1 hb)
      go_ret2
      exact ⟨rfl, hb⟩

theorem path_any (a : Nat → Addr) (T : ET) (w : World) (hE : Errs a w) (hT : Holds a w T) :
    Calls Tryd.prog 24 #[T.val a] w fun e w' => e = .returned (.tuple #[.string (pathO T.as), .bool (okO T.as)]) ∧ Below w.heap.size w w' := by
  have hi := place_any a T w hE hT
  generalize T.val a = v at hi ⊢
  cases hd : T.as with
  | none =>
    rw [hd] at hi
    clear hE hT hd
    simp only [ptrO, ET.ptr] at hi
    go_enter Tryd.func24, Tryd.ntmps24
    go_wp2_with (go_at_call 40; refine hi.mono ?_; rintro e w1 ⟨rfl, hb⟩)
    go_ret2
    exact ⟨rfl, hb⟩
  | some F =>
    rw [hd] at hi
    obtain ⟨hF, hk⟩ := as_holds hT hd
    clear hE hT hd
    rcases hk with rfl | ⟨p, n, s, e, rfl⟩
    · clear hF
      simp only [ptrO, ET.ptr] at hi
      go_enter Tryd.func24, Tryd.ntmps24
      go_wp2_with (go_at_call 40; refine hi.mono ?_; rintro e w1 ⟨rfl, hb⟩)
      go_ret2
      exact ⟨rfl, hb⟩
    · simp only [Holds] at hF
      have HK : Hid (∀ W : World, Below w.heap.size w W → W.cell? ⟨p, 2, none⟩ = some (.string s)) := Lib.hid fun W hb => keep1 hb hF.2.2.1
      clear hF
      simp only [ptrO, ET.ptr] at hi
      go_enter Tryd.func24, Tryd.ntmps24
      go_wp2_with (go_at_call 40; refine hi.mono ?_; rintro e w1 ⟨rfl, hb⟩; have hk := HK.out w1 hb)
      go_ret2
      exact ⟨rfl, hb⟩

theorem hpath_any (a : Nat → Addr) (T : ET) (w : World) (hE : Errs a w) (hT : Holds a w T) :
    Calls Tryd.prog 39 #[T.val a] w fun e w' => e = .returned (.tuple #[.string (pathO T.as), .bool (okO T.as)]) ∧ Below w.heap.size w w' := by
  have hi := As_my a T w hE hT
  generalize T.val a = v at hi ⊢
  cases hd : T.as with
  | none =>
    rw [hd] at hi
    clear hE hT hd
    skip
    go_enter Tryd.func39, Tryd.ntmps39
    go_wp2_with (go_at_call 21; refine hi.mono ?_; rintro e w1 ⟨he, hc, hb⟩; simp only [ptrO, ET.ptr, Option.isSome_none, Option.isSome_some] at he hc; subst he)
    go_ret2
    exact ⟨rfl, hb⟩
  | some F =>
    rw [hd] at hi
    obtain ⟨hF, hk⟩ := as_holds hT hd
    clear hE hT hd
    rcases hk with rfl | ⟨p, n, s, e, rfl⟩
    · clear hF
      skip
      go_enter Tryd.func39, Tryd.ntmps39
      go_wp2_with (go_at_call 21; refine hi.mono ?_; rintro e w1 ⟨he, hc, hb⟩; simp only [ptrO, ET.ptr, Option.isSome_none, Option.isSome_some] at he hc; subst he)
      go_ret2
      exact ⟨rfl, hb⟩
    · simp only [Holds] at hF
      have HK : Hid (∀ W : World, Below w.heap.size w W → W.cell? ⟨p, 2, none⟩ = some (.string s)) := Lib.hid fun W hb => keep1 hb hF.2.2.1
      clear hF
      skip
      go_enter Tryd.func39, Tryd.ntmps39
      go_wp2_with (go_at_call 21; refine hi.mono ?_; rintro e w1 ⟨he, hc, hb⟩; simp only [ptrO, ET.ptr, Option.isSome_none, Option.isSome_some] at he hc; subst he; have hk := HK.out w1 hb)
      go_ret2
      exact ⟨rfl, hb⟩

/-- The least number of which it holds, from k on; -1: of none. -/
def codeF (S : Nat → Bool) : Nat → Nat → Int
  | 0, _ => -1
  | n + 1, k => if S k then (k : Int) else codeF S n (k + 1)
/-- h.Code's loop. -/
def codeHF (S : Nat → Bool) : Nat → Nat → Int → Int
  | 0, _, n => n
  | f + 1, k, n => if S k then (if 0 < n then -2 else codeHF S f (k + 1) k) else codeHF S f (k + 1) n
def ET.code : ET → Int
  | .nil => 0
  | T => codeF T.has 11 1
def ET.hcode : ET → Int
  | .nil => 0
  | T => codeHF T.has 11 1 (-1)
theorem ET.code_of (T : ET) (h : T ≠ .nil) : T.code = codeF T.has 11 1 := by cases T <;> first | exact absurd rfl h | rfl
theorem ET.hcode_of (T : ET) (h : T ≠ .nil) : T.hcode = codeHF T.has 11 1 (-1) := by cases T <;> first | exact absurd rfl h | rfl

theorem code_any (a : Nat → Addr) (T : ET) (w : World) (hE : Errs a w) (hT : Holds a w T) :
    Calls Tryd.prog 26 #[T.val a] w fun e w' => e = .returned (.int .i64 T.code) ∧ Below w.heap.size w w' := by
  by_cases h : T = .nil
  · subst h
    go_enter Tryd.func26, Tryd.ntmps26
    simp only [ET.val]
    go_wp2
    go_ret
    exact ⟨rfl, Below.refl _ _⟩
  · rw [ET.code_of T h]
    have HI : Hid (∀ (W : World) (c : Nat), Below w.heap.size w W → 1 ≤ c → c ≤ 11 → Calls Tryd.prog 37 #[T.val a, .iface 94 (.pointer (some (a c)))] W fun e w' => e = .returned (.bool (T.has c)) ∧ Below W.heap.size W w') :=
      Lib.hid fun W c hb h0 h1 => Is_any a T W (hE.below hb) (hT.below hb) c h0 h1
    have HS1 : Hid (∀ (W : World) (c : Nat), Below w.heap.size w W → 1 ≤ c → c ≤ 11 → Calls Tryd.prog 36 #[.int .i64 c] W fun e w' => e = .returned (.iface 94 (.pointer (some (a c)))) ∧ Below W.heap.size W w') :=
      Lib.hid fun W c hb h0 h1 => flt_in a c W (hE.below hb) h0 h1
    have HS2 : Hid (∀ (W : World), Below w.heap.size w W → Calls Tryd.prog 36 #[.int .i64 12] W fun e w' => e = .returned .nilIface ∧ Below W.heap.size W w') :=
      Lib.hid fun W hb => flt_out a 12 W (hE.below hb) (by omega)
    obtain ⟨t, x, hv⟩ := val_nil a T h
    rw [hv] at HI ⊢
    generalize T.has = S at HI ⊢
    generalize hr : codeF S 11 1 = r
    have HR := Lib.hid hr
    clear hr hE hT h hv
    go_enter Tryd.func26, Tryd.ntmps26
    go_wp2
    go_loopw [3] (fun i W => ∃ c : Nat, i = .int .i64 c ∧ 1 ≤ c ∧ c ≤ 12 ∧ Hid (codeF S (12 - c) c = r) ∧ Hid (Below w.heap.size w W)) (fun i _ => 12 - (intOf i).toNat)
    case atStart => exact ⟨1, rfl, by omega, by omega, HR, Lib.hid (Below.refl _ _)⟩
    case round =>
      clear HR
      obtain ⟨c, rfl, h0, h1, HR, HB⟩ := hrel
      by_cases hlt : c ≤ 11
      · have s1 := HS1.out wr c HB.out h0 hlt
        have HK2 : Hid (∀ w1, Below wr.heap.size wr w1 → Below w.heap.size w w1) := Lib.hid fun w1 h => trans_b HB.out h
        have HN : Hid ((if S c then (c : Int) else codeF S (12 - (c + 1)) (c + 1)) = r) := Lib.hid (by
          have := HR.out
          rw [show 12 - c = (12 - (c + 1)) + 1 by omega] at this
          exact this)
        generalize hd : S c = d at HN
        have HD := Lib.hid hd
        clear hd
        cases d with
        | true =>
          have e : r = c := HN.out.symm
          subst e
          go_upto_region 6 with (go_at_call 36; refine s1.mono ?_; rintro e w1 ⟨rfl, hb1⟩; have hb2 := HK2.out w1 hb1; have s2 := HS1.out w1 c hb2 h0 hlt)
          go_wp2_with (first | (go_at_call 36; refine s2.mono ?_; rintro e w2 ⟨rfl, hb3⟩; have s3 := HI.out w2 c (trans_b hb2 hb3) h0 hlt; rw [HD.out] at s3; have hb4 := trans_b hb2 hb3) | (go_at_call 37; refine s3.mono ?_; rintro e w3 ⟨rfl, hb5⟩))
          go_ret
          exact ⟨rfl, trans_b hb4 hb5⟩
        | false =>
          have HN2 : Hid (codeF S (12 - (c + 1)) (c + 1) = r) := Lib.hid HN.out
          go_upto_region 6 with (go_at_call 36; refine s1.mono ?_; rintro e w1 ⟨rfl, hb1⟩; have hb2 := HK2.out w1 hb1; have s2 := HS1.out w1 c hb2 h0 hlt)
          go_wp2_with (first | (go_at_call 36; refine s2.mono ?_; rintro e w2 ⟨rfl, hb3⟩; have s3 := HI.out w2 c (trans_b hb2 hb3) h0 hlt; rw [HD.out] at s3; have hb4 := trans_b hb2 hb3) | (go_at_call 37; refine s3.mono ?_; rintro e w3 ⟨rfl, hb5⟩))
          go_roundw
          case rel => exact ⟨c + 1, by go_num, by omega, by omega, HN2, Lib.hid (trans_b hb4 hb5)⟩
          case measure => simp [intOf]; omega
      · obtain rfl : c = 12 := by omega
        have e : r = -1 := HR.out.symm
        subst e
        have s1 := HS2.out wr HB.out
        have HK2 : Hid (∀ w1, Below wr.heap.size wr w1 → Below w.heap.size w w1) := Lib.hid fun w1 h => trans_b HB.out h
        go_wp2_with (go_at_call 36; refine s1.mono ?_; rintro e w1 ⟨rfl, hb1⟩)
        go_ret
        exact ⟨rfl, HK2.out _ hb1⟩

theorem hcode_any (a : Nat → Addr) (T : ET) (w : World) (hE : Errs a w) (hT : Holds a w T) :
    Calls Tryd.prog 16 #[T.val a] w fun e w' => e = .returned (.int .i64 T.hcode) ∧ Below w.heap.size w w' := by
  by_cases h : T = .nil
  · subst h
    go_enter Tryd.func16, Tryd.ntmps16
    simp only [ET.val]
    go_wp2
    go_ret
    exact ⟨rfl, Below.refl _ _⟩
  · rw [ET.hcode_of T h]
    have HI : Hid (∀ (W : World) (c : Nat), Below w.heap.size w W → 1 ≤ c → c ≤ 11 → Calls Tryd.prog 37 #[T.val a, .iface 94 (.pointer (some (a c)))] W fun e w' => e = .returned (.bool (T.has c)) ∧ Below W.heap.size W w') :=
      Lib.hid fun W c hb h0 h1 => Is_any a T W (hE.below hb) (hT.below hb) c h0 h1
    obtain ⟨t, x, hv⟩ := val_nil a T h
    rw [hv] at HI ⊢
    generalize T.has = S at HI ⊢
    generalize hr : codeHF S 11 1 (-1) = r
    have HR := Lib.hid hr
    have g1 : w.cell? ⟨2, 0, none⟩ = some (.iface 94 (.pointer (some (a 1)))) := hE.g 1 (by omega) (by omega)
    have g2 : w.cell? ⟨3, 0, none⟩ = some (.iface 94 (.pointer (some (a 2)))) := hE.g 2 (by omega) (by omega)
    have g3 : w.cell? ⟨1, 0, none⟩ = some (.iface 94 (.pointer (some (a 3)))) := hE.g 3 (by omega) (by omega)
    have g4 : w.cell? ⟨4, 0, none⟩ = some (.iface 94 (.pointer (some (a 4)))) := hE.g 4 (by omega) (by omega)
    have g5 : w.cell? ⟨5, 0, none⟩ = some (.iface 94 (.pointer (some (a 5)))) := hE.g 5 (by omega) (by omega)
    have g6 : w.cell? ⟨6, 0, none⟩ = some (.iface 94 (.pointer (some (a 6)))) := hE.g 6 (by omega) (by omega)
    have g7 : w.cell? ⟨7, 0, none⟩ = some (.iface 94 (.pointer (some (a 7)))) := hE.g 7 (by omega) (by omega)
    have g8 : w.cell? ⟨8, 0, none⟩ = some (.iface 94 (.pointer (some (a 8)))) := hE.g 8 (by omega) (by omega)
    have g9 : w.cell? ⟨9, 0, none⟩ = some (.iface 94 (.pointer (some (a 9)))) := hE.g 9 (by omega) (by omega)
    have g10 : w.cell? ⟨0, 0, none⟩ = some (.iface 94 (.pointer (some (a 10)))) := hE.g 10 (by omega) (by omega)
    have g11 : w.cell? ⟨10, 0, none⟩ = some (.iface 94 (.pointer (some (a 11)))) := hE.g 11 (by omega) (by omega)
    clear hr hE hT h hv
    go_enter Tryd.func16, Tryd.ntmps16
    go_upto_region 4 with fail
    have hS : Below w.heap.size w (w.alloc (.cells (sentA a) 78)) := (Below.refl _ _).alloc (Nat.le_refl _) _
    have HC : Hid (∀ (W : World) (i : Nat), Below (w.alloc (.cells (sentA a) 78)).heap.size (w.alloc (.cells (sentA a) 78)) W → i < 11 → W.cell? ⟨w.heap.size, i, none⟩ = some (.iface 94 (.pointer (some (a (i + 1)))))) := Lib.hid fun W i hb hi =>
      keep1 hb (by rw [World.cell?_alloc_new]; exact sentA_at a i hi)
    clear g1 g2 g3 g4 g5 g6 g7 g8 g9 g10 g11
    show Code.wp _ _ _ _ (w.alloc (.cells (sentA a) 78))
    generalize (w.alloc (.cells (sentA a) 78)) = W0 at hS HC ⊢
    have HS := Lib.hid hS
    clear hS
    go_wp2
    go_loopw [4, 5] (fun n i W => ∃ (c : Nat) (m : Int), i = .int .i64 c ∧ c ≤ 11 ∧ n = .int .i64 m ∧ -1 ≤ m ∧ m ≤ 11 ∧ Hid (codeHF S (11 - c) (c + 1) m = r) ∧ Hid (Below W0.heap.size W0 W)) (fun _ i _ => 11 - (intOf i).toNat)
    case atStart => exact ⟨0, -1, rfl, by omega, rfl, by omega, by omega, HR, Lib.hid (Below.refl _ _)⟩
    case round =>
      clear HR
      obtain ⟨c, m, rfl, h1, rfl, hm0, hm1, HR, HB⟩ := hrel
      by_cases hlt : c < 11
      · have s1 := HI.out wr (c + 1) (trans_b HS.out HB.out) (by omega) (by omega)
        have hce := HC.out wr c HB.out hlt
        have HK2 : Hid (∀ w1, Below wr.heap.size wr w1 → Below W0.heap.size W0 w1) := Lib.hid fun w1 h => trans_b HB.out h
        have HN : Hid ((if S (c + 1) then (if 0 < m then -2 else codeHF S (11 - (c + 1)) (c + 1 + 1) ((c + 1 : Nat) : Int)) else codeHF S (11 - (c + 1)) (c + 1 + 1) m) = r) := Lib.hid (by
          have := HR.out
          rw [show 11 - c = (11 - (c + 1)) + 1 by omega] at this
          exact this)
        have hci : (c : Int) < 11 := by omega
        generalize S (c + 1) = d at HN s1
        cases d with
        | true =>
          by_cases hm : 0 < m
          · have e : r = -2 := by have := HN.out; simp only [if_true, if_pos hm] at this; exact this.symm
            subst e
            go_wp2_with (go_at_call 37; refine s1.mono ?_; rintro e w1 ⟨rfl, hb1⟩)
            go_ret
            exact ⟨rfl, trans_b HS.out (HK2.out _ hb1)⟩
          · have HN2 : Hid (codeHF S (11 - (c + 1)) (c + 1 + 1) ((c + 1 : Nat) : Int) = r) := Lib.hid (by have := HN.out; simp only [if_true, if_neg hm] at this; exact this)
            go_wp2_with (go_at_call 37; refine s1.mono ?_; rintro e w1 ⟨rfl, hb1⟩)
            go_roundw
            case rel => exact ⟨c + 1, ((c + 1 : Nat) : Int), by go_num, by omega, by go_num, by omega, by omega, HN2, Lib.hid (HK2.out _ hb1)⟩
            case measure => simp [intOf]; omega
        | false =>
          have HN2 : Hid (codeHF S (11 - (c + 1)) (c + 1 + 1) m = r) := Lib.hid (by have := HN.out; simpa only [Bool.false_eq_true, if_false] using this)
          go_wp2_with (go_at_call 37; refine s1.mono ?_; rintro e w1 ⟨rfl, hb1⟩)
          go_roundw
          case rel => exact ⟨c + 1, m, by go_num, by omega, rfl, by omega, by omega, HN2, Lib.hid (HK2.out _ hb1)⟩
          case measure => simp [intOf]; omega
      · obtain rfl : c = 11 := by omega
        have e : r = m := HR.out.symm
        subst e
        go_wp2
        go_ret
        exact ⟨rfl, trans_b HS.out HB.out⟩
end Go.Proofs.YtfjgjhicinaolaaDoor
