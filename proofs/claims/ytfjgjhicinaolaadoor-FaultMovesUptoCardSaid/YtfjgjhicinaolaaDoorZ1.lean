/- Step of the document. -/
import Derived.Test.YtfjgjhicinaolaaDoorP
import Derived.Test.YtfjgjhicinaolaaDoorX1
namespace Go.Proofs.YtfjgjhicinaolaaDoor
open Go.RowKit Go.Extern.Stop Go.Stop Go.Extern
set_option maxRecDepth 100000
set_option linter.unusedVariables false
set_option linter.unusedSimpArgs false
set_option linter.unnecessarySimpa false

theorem esc_take (s : ByteArray) (c : Nat) (h : c < s.size) (x : List UInt8) (hx : Esc.esc [s[c]] = x) : bs (47 :: Esc.esc (s.data.toList.take c)) ++ bs x = bs (47 :: Esc.esc (s.data.toList.take (c + 1))) := by
  have hl : c < s.data.toList.length := by rw [size_list]; exact h
  have e : s.data.toList.take (c + 1) = s.data.toList.take c ++ [s[c]] := by rw [List.take_succ_eq_append_getElem hl]; rfl
  rw [bs_append, e, ← hx]
  simp [Esc.esc]
theorem esc_len (l : List UInt8) : (Esc.esc l).length ≤ 2 * l.length := by
  induction l with
  | nil => simp [Esc.esc]
  | cons b l ih =>
    have : Esc.esc (b :: l) = Esc.esc [b] ++ Esc.esc l := by simp [Esc.esc]
    rw [this, List.length_append, List.length_cons]
    have : (Esc.esc [b]).length ≤ 2 := by simp only [Esc.esc, Esc.escB, List.flatMap_cons, List.flatMap_nil, List.append_nil]; split <;> (try split) <;> simp
    omega
theorem step_doc (s : ByteArray) (w : World) (hz : s.size ≤ 1073741824) : Calls Tryd.prog 20 #[.string s] w fun e w' => e = .returned (.string (bs (stepS s))) ∧ Below w.heap.size w w' := by
  generalize hR : bs (stepS s) = R
  have HR : Hid (bs (47 :: Esc.esc s.data.toList) = R) := Lib.hid hR
  clear hR
  have HB := Lib.hid (Below.refl w.heap.size w)
  go_enter Tryd.func20, Tryd.ntmps20
  go_wp2
  go_loopw [3, 4] (fun v i W => ∃ (c : Nat) (q : ByteArray), i = .int .i64 c ∧ c ≤ s.size ∧ v = .string q ∧ Hid (q = bs (47 :: Esc.esc (s.data.toList.take c))) ∧ Hid (Below w.heap.size w W)) (fun _ i _ => s.size - (intOf i).toNat)
  case atStart => exact ⟨0, _, rfl, by omega, rfl, Lib.hid rfl, HB⟩
  case round =>
    clear HB
    obtain ⟨c, q, rfl, hc, rfl, HQ, HB⟩ := hrel
    have hc0 : 0 ≤ (c : Int) := by omega
    by_cases hlt : c < s.size
    · have hq : q.size ≤ 1 + 2 * c := by
        rw [HQ.out, bs_size]
        have := esc_len (s.data.toList.take c)
        simp only [List.length_cons, List.length_take] at this ⊢
        omega
      have hq2 : q.size + 2 ≤ 9223372036854775807 := by omega
      have hq1 : q.size + 1 ≤ 9223372036854775807 := by omega
      have hidx := idx_run s c hlt
      have hsl := slice_run s c (by omega)
      rw [extract_one s c hlt] at hsl
      have hlti : (c : Int) < s.size := by omega
      have hat := at1_eq s c hlt _ rfl
      rw [hat] at hidx
      have HX : Hid (∀ x, Esc.esc [s[c]] = x → q ++ bs x = bs (47 :: Esc.esc (s.data.toList.take (c + 1)))) := Lib.hid fun x hx => by rw [HQ.out]; exact esc_take s c hlt x hx
      clear hat HQ hq
      by_cases e1 : s[c] = 126
      · rw [e1] at hidx HX
        have HX2 := Lib.hid (HX.out [126, 48] rfl)
        clear HX hsl e1
        go_wp2
        go_roundw
        case rel => exact ⟨c + 1, _, by go_num, by omega, rfl, HX2, HB⟩
        case measure => simp only [intOf]; omega
      · by_cases e2 : s[c] = 47
        · rw [e2] at hidx HX
          have HX2 := Lib.hid (HX.out [126, 49] rfl)
          clear HX hsl e1 e2
          go_wp2
          go_roundw
          case rel => exact ⟨c + 1, _, by go_num, by omega, rfl, HX2, HB⟩
          case measure => simp only [intOf]; omega
        · have HX2 := Lib.hid (HX.out [s[c]] (by simp [Esc.esc, Esc.escB, e1, e2]))
          have b1 : ((s[c].toNat : Int) == 126) = false := by
            simp only [beq_eq_false_iff_ne, ne_eq]; intro h; exact e1 (UInt8.toNat_inj.1 (show s[c].toNat = 126 by omega))
          have b2 : ((s[c].toNat : Int) == 47) = false := by
            simp only [beq_eq_false_iff_ne, ne_eq]; intro h; exact e2 (UInt8.toNat_inj.1 (show s[c].toNat = 47 by omega))
          generalize (s[c].toNat : Int) = z at hidx b1 b2
          generalize s[c] = y at hsl HX2
          have hbs : (bs [y]).size = 1 := rfl
          clear HX e1 e2
          go_wp2
          go_roundw
          case rel => exact ⟨c + 1, _, by go_num, by omega, rfl, HX2, HB⟩
          case measure => simp only [intOf]; omega
    · have hcs : c = s.size := by omega
      have hqR : q = R := by rw [HQ.out, ← HR.out, hcs, List.take_of_length_le (by rw [size_list]; exact Nat.le_refl _)]
      subst hqR
      have hge : ¬ (c : Int) < s.size := by omega
      clear hcs HQ HR
      go_wp2
      go_ret
      exact ⟨rfl, HB.out⟩
end Go.Proofs.YtfjgjhicinaolaaDoor
