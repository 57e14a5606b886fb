/- fault.First of any errors. -/
import Derived.Test.YtfjgjhicinaolaaDoorX1
namespace Go.Proofs.YtfjgjhicinaolaaDoor
open Go.RowKit Go.Extern.Stop Go.Stop Go.Extern
set_option maxRecDepth 100000
set_option linter.unusedVariables false
set_option linter.unusedSimpArgs false
set_option linter.unnecessarySimpa false

def firstT : List ET → ET
  | [] => .nil
  | T :: l => match T with
    | .nil => firstT l
    | T => T
theorem firstT_some {T : ET} (h : T ≠ .nil) (l : List ET) : firstT (T :: l) = T := by cases T <;> first | exact absurd rfl h | rfl
theorem firstT_drop {l : List ET} {j : Nat} (h : j < l.length) : firstT (l.drop j) = (match l[j] with | .nil => firstT (l.drop (j + 1)) | T => T) := by
  rw [List.drop_eq_getElem_cons h]; rfl
theorem first_row {a : Nat → Addr} {w : World} {v : Value} {Ts : List ET} (h : RowAt w v (Ts.map (ET.val a))) : ∃ A cap, v = .slice A Ts.length cap ∧ Ts.length ≤ cap ∧ cap ≤ 9223372036854775807 ∧ ∀ i (hi : i < Ts.length), ∃ g, A = some ⟨g, 0, none⟩ ∧ w.cell? ⟨g, i, none⟩ = some ((Ts[i]).val a) := by
  rcases h with ⟨rfl, h⟩ | ⟨g, c, rfl, h1, h2, h3⟩
  · have : Ts = [] := by simpa using h
    subst this
    exact ⟨none, 0, rfl, Nat.le_refl _, by omega, fun i hi => by simp at hi⟩
  · rw [List.length_map] at h1 ⊢
    exact ⟨_, c, rfl, h1, h2, fun i hi => ⟨g, rfl, h3 i _ (by simp [hi])⟩⟩
theorem First_any (a : Nat → Addr) (v : Value) (Ts : List ET) (w : World) (hr : RowAt w v (Ts.map (ET.val a))) :
    Calls Tryd.prog 28 #[v] w fun e w' => e = .returned ((firstT Ts).val a) ∧ Below w.heap.size w w' := by
  obtain ⟨A, cap, rfl, h1, h2, hc⟩ := first_row hr
  clear hr
  have HC := Lib.hid hc
  obtain ⟨m, hm⟩ : ∃ m, Ts.length = m := ⟨_, rfl⟩
  have HM := Lib.hid hm
  rw [hm] at h1 ⊢
  have hm2 : m ≤ 9223372036854775807 := by omega
  clear hc hm
  generalize hF : (firstT Ts).val a = F
  have HF : Hid ((firstT (Ts.drop 0)).val a = F) := Lib.hid hF
  clear hF
  have HB := Lib.hid (Below.refl w.heap.size w)
  go_enter Tryd.func28, Tryd.ntmps28
  go_upto_region 2 with fail
  go_loopw [7] (fun i W => ∃ j : Nat, i = .int .i64 j ∧ j ≤ m ∧ Hid ((firstT (Ts.drop j)).val a = F) ∧ Hid (Below w.heap.size w W)) (fun i _ => m - (intOf i).toNat)
  case atStart => exact ⟨0, rfl, by omega, HF, HB⟩
  case round =>
    clear HF HB
    obtain ⟨j, rfl, hj, HF, HB⟩ := hrel
    by_cases hlt : j < m
    · have hjl : j < Ts.length := by rw [HM.out]; exact hlt
      obtain ⟨g, rfl, hg⟩ := HC.out j hjl
      have hf := HF.out
      rw [firstT_drop hjl] at hf
      have hg2 := keep1 HB.out hg
      generalize Ts[j] = T at hg2 hf
      clear hg HF
      have hmi : (j : Int) < m := by omega
      by_cases hT : T = .nil
      · subst hT
        have HF := Lib.hid hf
        clear hf
        simp only [ET.val] at hg2
        go_wp2
        go_roundw
        case rel => exact ⟨j + 1, by go_num, by omega, HF, HB⟩
        case measure => simp only [intOf]; omega
      · obtain ⟨t, u, hv⟩ := val_nil a T hT
        have hF : F = .iface t u := by rw [← hv, ← hf]; cases T <;> first | exact absurd rfl hT | rfl
        rw [hv] at hg2
        subst hF
        clear hf hv hT
        go_wp2
        go_ret
        exact ⟨rfl, HB.out⟩
    · obtain rfl : m = j := by omega
      have hF : F = .nilIface := by rw [← HF.out, List.drop_of_length_le (by rw [HM.out]; exact Nat.le_refl _)]; rfl
      subst hF
      go_wp2
      go_ret
      exact ⟨rfl, HB.out⟩
end Go.Proofs.YtfjgjhicinaolaaDoor
