/- The document's texts are the program's. -/
import Derived.Test.YtjnmjgpkicbbdaaGreatDoorV
namespace Go.Proofs.YtjnmjgpkicbbdaaGreatDoor
open Go.RowKit
set_option maxRecDepth 100000
set_option linter.unusedVariables false
set_option linter.unusedSimpArgs false
set_option linter.unnecessarySimpa false

def toldF (n : Nat) (f : Int → Int) : Nat → List Int → List Int
  | 0, _ => []
  | _ + 1, [] => []
  | k + 1, y :: r => f (take0 n (y :: r) 0) :: toldF n f k ((y :: r).drop n)
theorem take0_range : ∀ (n : Nat) (l : List Int) (a : Int), (∀ y ∈ l, 0 ≤ y ∧ y ≤ 1) → 0 ≤ a → 0 ≤ take0 n l a ∧ take0 n l a + 1 ≤ (a + 1) * 2 ^ n
  | 0, l, a, hl, ha => by simp [take0]; exact ha
  | n + 1, l, a, hl, ha => by
    have hh : 0 ≤ l.headD 0 ∧ l.headD 0 ≤ 1 := by
      cases l with
      | nil => simp
      | cons y r => exact hl y (by simp)
    have ih := take0_range n l.tail (a * 2 + l.headD 0) (fun y hy => hl y (List.mem_of_mem_tail hy)) (by omega)
    rw [take0]
    refine ⟨ih.1, Int.le_trans ih.2 ?_⟩
    rw [Int.pow_succ, Int.mul_comm (2 ^ n) 2, ← Int.mul_assoc]
    exact Int.mul_le_mul_of_nonneg_right (by omega) (Int.le_of_lt (Int.pow_pos (by decide)))
theorem take0_lt (n : Nat) (l : List Int) (hl : ∀ y ∈ l, 0 ≤ y ∧ y ≤ 1) (a : Nat) : 0 ≤ take0 n (l.drop a) 0 ∧ take0 n (l.drop a) 0 + 1 ≤ 2 ^ n := by
  have := take0_range n (l.drop a) 0 (fun y hy => hl y (List.mem_of_mem_drop hy)) (by omega)
  simpa using this

theorem told_any (A : Option Addr) (c N n M : Nat) (ls : List Int) (s : ByteArray) (f : Int → Int) (w : World) (hM : ∀ a, 0 ≤ take0 n (ls.drop a) 0 ∧ take0 n (ls.drop a) 0 < M) (hs : s.size = M) (hf : ∀ (i : Nat) (h : i < s.size), ((s[i]'h).toNat : Int) = f i)
    (hb : ∀ y ∈ ls, 0 ≤ y ∧ y ≤ 1) (hl : ls.length = N) (hN : N ≤ 134217728) (hn : n ≤ 8) (hn1 : 1 ≤ n) (hr : RK w .i64 A ls) :
    Calls Tryz.prog 63 #[.slice A N c, .int .i64 n, .string s] w fun e w' => e = .returned (.string (strOfNums (toldF n f N ls))) ∧ Below w.heap.size w w' := by
  have hR := Lib.hid hr
  have hL := Lib.hid hl
  have hB := Lib.hid hb
  have HM := Lib.hid hM
  have HI := Lib.hid (index_at s f M hs hf .i64)
  clear hr hl hb hM hs hf
  go_enter Tryz.func63, Tryz.ntmps63
  go_wp2
  go_loopw [7, 8] (fun v i W => ∃ (a k : Nat) (ys : List Int), i = .int .i64 a ∧ Own W w.heap.size 5 .u8 v ys ∧ ys.length ≤ a ∧ a ≤ N + 8 ∧ N ≤ a + k ∧ Hid (toldF n f N ls = ys ++ toldF n f k (ls.drop a)) ∧ Below w.heap.size w W) (fun _ i _ => N + 8 - (intOf i).toNat)
  case atStart => exact ⟨0, N, [], rfl, Own.nil _ _ _ _, by simp, by omega, by omega, Lib.hid (by simp), Below.refl _ _⟩
  case round =>
    obtain ⟨a, k, ys, rfl, ho, hya, ha, hk, hT, hb⟩ := hrel
    by_cases hlt : a < N
    · obtain ⟨k, rfl⟩ : ∃ q, k = q + 1 := ⟨k - 1, by omega⟩
      have hstep : Hid (toldF n f N ls = (ys ++ [f (take0 n (ls.drop a) 0)]) ++ toldF n f k (ls.drop (a + n))) := Lib.hid (by
        have hne : a < ls.length := by rw [hL.out]; exact hlt
        rw [hT.out, List.drop_eq_getElem_cons hne, toldF, ← List.drop_eq_getElem_cons hne, List.drop_drop]
        simp)
      have htk := take_any A c N a n ls
      have hm := HM.out a
      have hcall : ∀ W, Below w.heap.size w W → Calls Tryz.prog 62 #[.slice A N c, .int .i64 a, .int .i64 n] W fun e w' => e = .returned (.int .i64 (take0 n (ls.drop a) 0)) ∧ Below W.heap.size W w' := fun W h => htk W hB.out hL.out (by omega) (by omega) (by omega) (hR.out.below h)
      clear htk
      generalize take0 n (ls.drop a) 0 = t at hm hcall hstep
      have hidx := HI.out t hm.1 hm.2
      have hO := Lib.hid ho
      have hyl : ys.length ≤ 134217728 := by omega
      clear ho hm
      go_wp2_with (first
        | (go_at_call 62; refine (hcall _ hb).mono ?_; rintro e w1 ⟨rfl, hb1⟩; have ho1 := hO.out.kept hb1; have hb2 := below_on hb hb1)
        | (at_builtin; refine app1 w.heap.size rfl (.tmp 16) (.tmp 23) 39 5 .u8 1 rfl Tryz.underlying39 info_byte _ ys _ rfl rfl ho1 hb2 hb2.size (by omega) (by omega) ?_; intro v1 w3 ho3 hb3 _))
      exact ⟨⟨a + n, k, ys ++ [f t], by go_num, ho3, by simp; omega, by omega, by omega, hstep, hb3⟩, by simp [intOf]; omega⟩
    · have hres : toldF n f N ls = ys := by
        rw [hT.out, List.drop_of_length_le (by rw [hL.out]; omega)]
        cases k <;> simp [toldF]
      have HRes := Lib.hid hres
      obtain ⟨D, cD, rfl, hRD, _, hD⟩ := ho.slice
      have hcv := conv_RK (P := Tryz.prog) (src := 39) (dst := 9) (e := 5) Tryz.underlying39 Tryz.underlying5 Tryz.underlying9 cD hRD (fun _ => hD)
      have hge : (N : Int) ≤ (a : Int) := by omega
      clear hres ho hRD hD hlt
      go_wp2
      go_ret
      exact ⟨by rw [HRes.out]; rfl, hb⟩
end Go.Proofs.YtjnmjgpkicbbdaaGreatDoor
