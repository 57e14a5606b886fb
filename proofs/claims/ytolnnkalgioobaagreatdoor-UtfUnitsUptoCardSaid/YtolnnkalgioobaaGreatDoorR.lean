/- The document's Codes. -/
import Derived.Test.YtolnnkalgioobaaGreatDoorQ
namespace Go.Proofs.YtolnnkalgioobaaGreatDoor
open Go.RowKit
set_option maxRecDepth 100000
set_option linter.unusedVariables false
set_option linter.unusedSimpArgs false
set_option linter.unnecessarySimpa false

theorem info3 : (Tryz.prog.info? 3).map (fun i => (i.zero, i.size, i.bytes)) = some (some (.int .i64 0), 1, 8) := by kernel_rfl
def codeL (x : RStep) : List Int := if x.good = false then [65536 + x.point] else if x.point < 65536 then [x.point] else [55296 + (x.point - 65536) / 1024, 56320 + (x.point - 65536) % 1024]
def codesL (l : List RStep) : List Int := l.flatMap codeL
theorem codesL_snoc (l : List RStep) (x : RStep) : codesL (l ++ [x]) = codesL l ++ codeL x := by simp [codesL]
theorem codeL_len (x : RStep) : (codeL x).length ≤ 2 := by unfold codeL; (repeat' split) <;> simp
theorem codesL_len : ∀ l, (codesL l).length ≤ 2 * l.length
  | [] => by simp [codesL]
  | x :: l => by
    have := codesL_len l
    have h := codeL_len x
    simp only [codesL, List.flatMap_cons, List.length_append, List.length_cons] at this ⊢
    omega
theorem rstep_pt (s : ByteArray) (a : Nat) (h : a < s.size) : 0 ≤ (rstep s a).point ∧ (rstep s a).point ≤ 1114111 := by
  unfold rstep
  rcases hd : decS s a with _ | ⟨p, n⟩
  · have := at1_range s a
    have := (at1_in s a).2 h
    simp; omega
  · have := (isPt_iff p).1 (decS_some hd).1
    simp; omega
theorem rsteps_pt : ∀ k s a, ∀ x ∈ rsteps k s a, 0 ≤ x.point ∧ x.point ≤ 1114111
  | 0, s, a, x, h => by simp [rsteps] at h
  | k + 1, s, a, x, h => by
    rw [rsteps] at h
    split at h
    · rename_i hlt
      rcases List.mem_cons.1 h with rfl | h
      · exact rstep_pt s a hlt
      · exact rsteps_pt k s _ x h
    · cases h
theorem rsteps_len : ∀ k s a, a ≤ s.size → (rsteps k s a).length ≤ s.size - a
  | 0, s, a, _ => by simp [rsteps]
  | k + 1, s, a, h => by
    rw [rsteps]
    split
    · rename_i hlt
      have hf := rstep_fit s a hlt
      have ih := rsteps_len k s (a + (rstep s a).size) hf.2.2
      simp only [List.length_cons]
      omega
    · simp
theorem rowOf_get : ∀ (l : List RStep) (j : Nat) (h : j < l.length), (rowOf l)[j * 4 + 2]? = some (.int .i64 (l[j]'h).point) ∧ (rowOf l)[j * 4 + 3]? = some (.bool (l[j]'h).good)
  | [], j, h => by simp at h
  | x :: l, 0, h => by simp [rowOf, rcells]
  | x :: l, j + 1, h => by
    have ih := rowOf_get l j (by simpa using h)
    have e : rowOf (x :: l) = rcells x ++ rowOf l := by simp [rowOf]
    have el : (rcells x).length = 4 := rfl
    rw [e, List.getElem?_append_right (by rw [el]; omega), List.getElem?_append_right (by rw [el]; omega), el, show (j + 1) * 4 + 2 - 4 = j * 4 + 2 from by omega, show (j + 1) * 4 + 3 - 4 = j * 4 + 3 from by omega]
    simpa using ih
end Go.Proofs.YtolnnkalgioobaaGreatDoor
