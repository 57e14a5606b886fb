/- What base.Base64 answers: six bits a letter, for any list of bytes. -/
import Derived.Test.YtjnmjgpkicbbdaaGreatDoorC
import Derived.Laws.CopyOwn
import Derived.Laws.BitsAllLaws
namespace Go.Proofs.YtjnmjgpkicbbdaaGreatDoor
open Go.RowKit
set_option maxRecDepth 100000
set_option linter.unusedVariables false
set_option linter.unusedSimpArgs false

def sliceLen : Value → Nat
  | .slice _ n _ => n
  | _ => 0

def lettersS : ByteArray := ⟨#[65, 66, 67, 68, 69, 70, 71, 72, 73, 74, 75, 76, 77, 78, 79, 80, 81, 82, 83, 84, 85, 86, 87, 88, 89, 90, 97, 98, 99, 100, 101, 102, 103, 104, 105, 106, 107, 108, 109, 110, 111, 112, 113, 114, 115, 116, 117, 118, 119, 120, 121, 122, 48, 49, 50, 51, 52, 53, 54, 55, 56, 57, 45, 95]⟩
def lt (d : Int) : Int := if d < 26 then 65 + d else if d < 52 then 71 + d else if d < 62 then d - 4 else if d = 62 then 45 else 95

theorem letters_ok : ∀ (i : Nat) (h : i < lettersS.size), ((lettersS[i]'h).toNat : Int) = lt i := by
  have : ∀ i : Fin lettersS.size, ((lettersS[i.val]'i.isLt).toNat : Int) = lt i.val := by decide
  exact fun i h => this ⟨i, h⟩

theorem lt_at (d : Int) (h0 : 0 ≤ d) (h1 : d < 64) (w : World) : (Instr.index 9 (.string ⟨#[65, 66, 67, 68, 69, 70, 71, 72, 73, 74, 75, 76, 77, 78, 79, 80, 81, 82, 83, 84, 85, 86, 87, 88, 89, 90, 97, 98, 99, 100, 101, 102, 103, 104, 105, 106, 107, 108, 109, 110, 111, 112, 113, 114, 115, 116, 117, 118, 119, 120, 121, 122, 48, 49, 50, 51, 52, 53, 54, 55, 56, 57, 45, 95]⟩) (.int .u64 d)).run Tryz.prog w = .ok (.int .u8 (lt d)) w :=
  index_at lettersS lt 64 rfl letters_ok .u64 d h0 h1 w

theorem lt_range (d : Int) (h0 : 0 ≤ d) (h1 : d < 64) : 0 ≤ lt d ∧ lt d ≤ 255 := by unfold lt; (repeat' split) <;> omega

def b64L : List Int → List Int
  | [] => []
  | [a] => [lt (a / 4), lt (a % 4 * 16)]
  | [a, b] => [lt (a / 4), lt (a % 4 * 16 + b / 16), lt (b % 16 * 4)]
  | a :: b :: c :: xs => lt (a / 4) :: lt (a % 4 * 16 + b / 16) :: lt (b % 16 * 4 + c / 64) :: lt (c % 64) :: b64L xs

theorem b64L_bytes : ∀ xs, Bytes xs → Bytes (b64L xs)
  | [], _ => fun x hx => by simp [b64L] at hx
  | [a], h => fun y hy => by
    have ha := h a (by simp)
    simp only [b64L, List.mem_cons, List.not_mem_nil, or_false] at hy
    rcases hy with rfl | rfl <;> exact lt_range _ (by omega) (by omega)
  | [a, b], h => fun y hy => by
    have ha := h a (by simp)
    have hb := h b (by simp)
    simp only [b64L, List.mem_cons, List.not_mem_nil, or_false] at hy
    rcases hy with rfl | rfl | rfl <;> exact lt_range _ (by omega) (by omega)
  | a :: b :: c :: xs, h => fun y hy => by
    have ha := h a (by simp)
    have hb := h b (by simp)
    have hc := h c (by simp)
    simp only [b64L, List.mem_cons] at hy
    rcases hy with rfl | rfl | rfl | rfl | hy
    · exact lt_range _ (by omega) (by omega)
    · exact lt_range _ (by omega) (by omega)
    · exact lt_range _ (by omega) (by omega)
    · exact lt_range _ (by omega) (by omega)
    · exact b64L_bytes xs (fun z hz => h z (by simp [hz])) y hy

theorem copy_one1 (a : Int) : ∀ v ∈ [Value.int .u8 a], v.oneCell' = true := by intro v hv; simp at hv; subst hv; rfl
theorem copy_one2 (a b : Int) : ∀ v ∈ [Value.int .u8 a, Value.int .u8 b], v.oneCell' = true := by intro v hv; simp at hv; rcases hv with rfl | rfl <;> rfl
theorem copy_one3 (a b c : Int) : ∀ v ∈ [Value.int .u8 a, Value.int .u8 b, Value.int .u8 c], v.oneCell' = true := by intro v hv; simp at hv; rcases hv with rfl | rfl | rfl <;> rfl
theorem copy_len (n : Nat) : 3 = Nat.min (n + 1 + 1 + 1) 3 := by show 3 = min _ _; omega

theorem wraps_u64 (n : Int) (h₀ : 0 ≤ n) (h₁ : n < 2 ^ 24) : IntKind.u64.wrap n = n := by
  rw [IntKind.wrap_u64]; omega

theorem rb_tail {w : World} {bk off c : Nat} {ys : List Int} (h : ∀ j, j < ys.length → w.cell? ⟨bk, off + 3 + j, none⟩ = some (.int .u8 (ys.getD j 0))) (hc : ys.length + 3 ≤ c) :
    RK w .u8 (if c = 3 then some ⟨bk, off, none⟩ else some ⟨bk, off + 3, none⟩) ys := by
  by_cases e : c = 3
  · exact .inl (List.eq_nil_of_length_eq_zero (by omega))
  · rw [if_neg e]
    exact .inr ⟨bk, off + 3, rfl, h⟩

theorem or3 (a b c : Int) (ha : 0 ≤ a) (ha1 : a ≤ 255) (hb : 0 ≤ b) (hb1 : b ≤ 255) (hc : 0 ≤ c) (hc1 : c ≤ 255) :
    bits BinOp.or .u64 (a * 65536) (b * 256) = a * 65536 + b * 256 ∧ bits BinOp.or .u64 (a * 65536 + b * 256) c = a * 65536 + b * 256 + c :=
  ⟨bits_join .u64 24 (by decide) wraps_u64 16 _ _ (by omega) (by omega) (by omega) (by omega) (by omega) (by omega),
   bits_join .u64 24 (by decide) wraps_u64 8 _ _ (by omega) (by omega) (by omega) hc (by omega) (by omega)⟩

theorem and63 (x : Int) (h0 : 0 ≤ x) (h1 : x < 16777216) : bits BinOp.and .u64 x 63 = x % 64 := bits_mask .u64 24 (by decide) wraps_u64 6 (by decide) x h0 h1

set_option maxHeartbeats 4000000 in
theorem b64_row (A : Option Addr) (cap : Nat) (xs : List Int) (w : World) (hx : Bytes xs) (hn : xs.length ≤ 70368744177664) (hr : RK w .u8 A xs) (hcap : xs.length ≤ cap) :
    Calls Tryz.prog 61 #[.slice A xs.length cap] w fun e w' => e = .returned (.string (strOfNums (b64L xs))) ∧ Below w.heap.size w w' := by
  have hB := Lib.hid (bld_new 150 5 w)
  have hR := Lib.hid hr
  clear hr
  have HX := Lib.hid hx
  clear hx
  go_enter Tryz.func61, Tryz.ntmps61
  go_wp2
  go_loopw [0, 4, 5, 6, 7] (fun s _ _ _ _ W => ∃ (ys zs : List Int) (A' : Option Addr) (c' : Nat), s = .slice A' ys.length c' ∧ RK w .u8 A' ys ∧ Bytes ys ∧ ys.length ≤ xs.length ∧ Hid (zs ++ b64L ys = b64L xs) ∧ zs.length ≤ 2 * (xs.length - ys.length) ∧ Lib.IsBuilder 150 5 w.heap.size w.heap.size (numsK .u8 zs) W ∧ Below w.heap.size w W ∧ ys.length ≤ c') (fun s _ _ _ _ _ => sliceLen s)
  case atStart => exact ⟨xs, [], A, cap, rfl, hR.out, HX.out, by omega, rfl, by simp, by simpa [numsK] using hB.out, (Below.refl _ _).alloc (Nat.le_refl _) _, hcap⟩
  case round =>
    obtain ⟨ys, zs, A', c', rfl, hr, hy, hl, hz, hzl, hI, hb, hyc⟩ := hrel
    match ys, hr, hy, hl, hz, hzl, hyc with
    | [], hr, hy, hl, hz, hzl, hyc =>
      have hbs := hb.size
      have hzb : Bytes zs := fun z hzz => b64L_bytes xs HX.out z (by rw [← hz.out]; simp [hzz])
      have hzz : zs = b64L xs := by rw [← hz.out]; simp [b64L]
      have HZ := Lib.hid hzz
      clear hzz
      have HB := Lib.hid hzb
      clear hzb
      go_wp2_with (go_at_call 94; refine (bld_string _ _ _ _ hI HB.out hbs).mono ?_; rintro e w1 ⟨rfl, hb1⟩)
      go_ret
      exact ⟨by rw [← HZ.out]; rfl, hb.trans hb1⟩
    | [a], hr, hy, hl, hz, hzl, hyc =>
      rcases hr with h | ⟨bk, off, rfl, hc⟩
      · cases h
      have ha := hy a (by simp)
      obtain ⟨a0, a1⟩ := ha
      have hc0 : w.cell? ⟨bk, off + 0, none⟩ = some (.int .u8 a) := hc 0 (by simp)
      have hw0 : wr.cell? ⟨bk, off + 0, none⟩ = some (.int .u8 a) := (hb.cell (World.block_lt_of_cell? w _ hc0)).trans hc0
      try simp only [Nat.add_zero] at hc0 hw0
      simp only [List.length_cons, List.length_nil] at hl hzl hyc
      clear hc hy
      have hnum : (numsK .u8 zs).length ≤ 140737488355326 := by rw [numsK_length]; omega
      have ho := or3 a 0 0 a0 a1 (by omega) (by omega) (by omega) (by omega)
      obtain ⟨ho1, ho2⟩ := ho
      try simp only [Int.zero_mul, Int.add_zero] at ho1 ho2
      have hn0 := and63 ((a * 65536) / 262144) (by omega) (by omega)
      have hi0 := lt_at ((a * 65536) / 262144 % 64) (by omega) (by omega)
      have hn1 := and63 ((a * 65536) / 4096) (by omega) (by omega)
      have hi1 := lt_at ((a * 65536) / 4096 % 64) (by omega) (by omega)
      have hg3 : Hid (0 < [Value.int .u8 a].length → some (⟨wr.heap.size, 0, none⟩ : Addr) = some ⟨wr.heap.size, 0, none⟩ ∧ ∃ ad, some (⟨bk, off, none⟩ : Addr) = some ad ∧ ∀ j v, [Value.int .u8 a][j]? = some v → (wr.alloc (.cells #[.int .u8 0, .int .u8 0, .int .u8 0] 153)).cell? (ad.add j) = some v) := by
        refine fun _ => ⟨rfl, _, rfl, fun j v hj => ?_⟩
        match j, hj with
        | 0, hj => simp at hj; subst hj; rw [show (⟨bk, off, none⟩ : Addr).add 0 = ⟨bk, off, none⟩ from by simp [Addr.add], World.cell?_alloc_lt _ _ _ (World.block_lt_of_cell? wr _ hw0)]; exact hw0
      have hg1 : Hid ((wr.alloc (.cells #[.int .u8 0, .int .u8 0, .int .u8 0] 153)).heap[wr.heap.size]? = some (.cells #[.int .u8 0, .int .u8 0, .int .u8 0] 153)) := Array.getElem?_push_size
      go_wp2_with (with_reducible refine wpList_copy_splice rfl (.tmp 11) (.tmp 12) 39 39 rfl 5 Tryz.underlying39 (by kernel_rfl) _ _ _ _ _ _ rfl rfl wr.heap.size 0 [.int .u8 0, .int .u8 0, .int .u8 0] 153 hg1.out [.int .u8 a] rfl hg3.out (by simp) (copy_one1 a) wr.heap.size wr ((Below.refl _ _).alloc (Nat.le_refl _) _) (Nat.le_refl _) ?_)
      intro w1 hh hb1
      have d0 : w1.cell? ⟨wr.heap.size, 0, none⟩ = some (.int .u8 a) := by rw [Lib.cell_of_heap hh.out]; rfl
      have d1 : w1.cell? ⟨wr.heap.size, 1, none⟩ = some (.int .u8 0) := by rw [Lib.cell_of_heap hh.out]; rfl
      have d2 : w1.cell? ⟨wr.heap.size, 2, none⟩ = some (.int .u8 0) := by rw [Lib.cell_of_heap hh.out]; rfl
      have hI0 := bld_kept hI hb1
      have hbs : w.heap.size ≤ w1.heap.size := Nat.le_trans hb.size hb1.size
      go_wp2
      refine wp_loop_rounds 5 ?_
      rw [rounds_succ]
      go_wp2_with fail
      refine (bld_writeByte w.heap.size w.heap.size _ (lt ((a * 65536) / 262144 % 64)) _ hI0 (by first | omega | (simp only [List.length_append, List.length_cons, List.length_nil]; omega)) hbs).mono ?_
      rintro e w2 ⟨rfl, hI1, hbw1⟩
      have hbs1 : w.heap.size ≤ w2.heap.size := Nat.le_trans hbs hbw1.size
      go_wp2_with fail
      rw [rounds_succ]
      go_wp2_with fail
      refine (bld_writeByte w.heap.size w.heap.size _ (lt ((a * 65536) / 4096 % 64)) _ hI1 (by first | omega | (simp only [List.length_append, List.length_cons, List.length_nil]; omega)) hbs1).mono ?_
      rintro e w3 ⟨rfl, hI2, hbw2⟩
      have hbs2 : w.heap.size ≤ w3.heap.size := Nat.le_trans hbs1 hbw2.size
      go_wp2_with fail
      rw [rounds_succ]
      go_wp2
      refine ⟨⟨[], zs ++ [lt ((a * 65536) / 262144 % 64)] ++ [lt ((a * 65536) / 4096 % 64)], _, _, rfl, .inl rfl, (fun _ h => by cases h), by simp, ?_, by simp only [List.length_append, List.length_cons, List.length_nil]; omega, ?_, (hb.trans ((hb1.mono hb.size).trans (hbw1.trans hbw2))), by simp⟩, by simp [sliceLen]⟩
      · rw [show (a * 65536) / 262144 % 64 = a / 4 from by omega]; rw [show (a * 65536) / 4096 % 64 = a % 4 * 16 from by omega]; rw [← hz.out]; exact Lib.hid (by simp [b64L])
      · simpa [numsK] using hI2
    | [a, b], hr, hy, hl, hz, hzl, hyc =>
      rcases hr with h | ⟨bk, off, rfl, hc⟩
      · cases h
      have ha := hy a (by simp)
      obtain ⟨a0, a1⟩ := ha
      have hc0 : w.cell? ⟨bk, off + 0, none⟩ = some (.int .u8 a) := hc 0 (by simp)
      have hw0 : wr.cell? ⟨bk, off + 0, none⟩ = some (.int .u8 a) := (hb.cell (World.block_lt_of_cell? w _ hc0)).trans hc0
      have hb := hy b (by simp)
      obtain ⟨b0, b1⟩ := hb
      have hc1 : w.cell? ⟨bk, off + 1, none⟩ = some (.int .u8 b) := hc 1 (by simp)
      have hw1 : wr.cell? ⟨bk, off + 1, none⟩ = some (.int .u8 b) := (hb.cell (World.block_lt_of_cell? w _ hc1)).trans hc1
      try simp only [Nat.add_zero] at hc0 hw0
      simp only [List.length_cons, List.length_nil] at hl hzl hyc
      clear hc hy
      have hnum : (numsK .u8 zs).length ≤ 140737488355324 := by rw [numsK_length]; omega
      have ho := or3 a b 0 a0 a1 b0 b1 (by omega) (by omega)
      obtain ⟨ho1, ho2⟩ := ho
      try simp only [Int.zero_mul, Int.add_zero] at ho1 ho2
      have hn0 := and63 ((a * 65536 + b * 256) / 262144) (by omega) (by omega)
      have hi0 := lt_at ((a * 65536 + b * 256) / 262144 % 64) (by omega) (by omega)
      have hn1 := and63 ((a * 65536 + b * 256) / 4096) (by omega) (by omega)
      have hi1 := lt_at ((a * 65536 + b * 256) / 4096 % 64) (by omega) (by omega)
      have hn2 := and63 ((a * 65536 + b * 256) / 64) (by omega) (by omega)
      have hi2 := lt_at ((a * 65536 + b * 256) / 64 % 64) (by omega) (by omega)
      have hg3 : Hid (0 < [Value.int .u8 a, Value.int .u8 b].length → some (⟨wr.heap.size, 0, none⟩ : Addr) = some ⟨wr.heap.size, 0, none⟩ ∧ ∃ ad, some (⟨bk, off, none⟩ : Addr) = some ad ∧ ∀ j v, [Value.int .u8 a, Value.int .u8 b][j]? = some v → (wr.alloc (.cells #[.int .u8 0, .int .u8 0, .int .u8 0] 153)).cell? (ad.add j) = some v) := by
        refine fun _ => ⟨rfl, _, rfl, fun j v hj => ?_⟩
        match j, hj with
        | 0, hj => simp at hj; subst hj; rw [show (⟨bk, off, none⟩ : Addr).add 0 = ⟨bk, off, none⟩ from by simp [Addr.add], World.cell?_alloc_lt _ _ _ (World.block_lt_of_cell? wr _ hw0)]; exact hw0
        | 1, hj => simp at hj; subst hj; rw [show (⟨bk, off, none⟩ : Addr).add 1 = ⟨bk, off + 1, none⟩ from by simp [Addr.add], World.cell?_alloc_lt _ _ _ (World.block_lt_of_cell? wr _ hw1)]; exact hw1
      have hg1 : Hid ((wr.alloc (.cells #[.int .u8 0, .int .u8 0, .int .u8 0] 153)).heap[wr.heap.size]? = some (.cells #[.int .u8 0, .int .u8 0, .int .u8 0] 153)) := Array.getElem?_push_size
      go_wp2_with (with_reducible refine wpList_copy_splice rfl (.tmp 11) (.tmp 12) 39 39 rfl 5 Tryz.underlying39 (by kernel_rfl) _ _ _ _ _ _ rfl rfl wr.heap.size 0 [.int .u8 0, .int .u8 0, .int .u8 0] 153 hg1.out [.int .u8 a, .int .u8 b] rfl hg3.out (by simp) (copy_one2 a b) wr.heap.size wr ((Below.refl _ _).alloc (Nat.le_refl _) _) (Nat.le_refl _) ?_)
      intro w1 hh hb1
      have d0 : w1.cell? ⟨wr.heap.size, 0, none⟩ = some (.int .u8 a) := by rw [Lib.cell_of_heap hh.out]; rfl
      have d1 : w1.cell? ⟨wr.heap.size, 1, none⟩ = some (.int .u8 b) := by rw [Lib.cell_of_heap hh.out]; rfl
      have d2 : w1.cell? ⟨wr.heap.size, 2, none⟩ = some (.int .u8 0) := by rw [Lib.cell_of_heap hh.out]; rfl
      have hI0 := bld_kept hI hb1
      have hbs : w.heap.size ≤ w1.heap.size := Nat.le_trans hb.size hb1.size
      go_wp2
      refine wp_loop_rounds 5 ?_
      rw [rounds_succ]
      go_wp2_with fail
      refine (bld_writeByte w.heap.size w.heap.size _ (lt ((a * 65536 + b * 256) / 262144 % 64)) _ hI0 (by first | omega | (simp only [List.length_append, List.length_cons, List.length_nil]; omega)) hbs).mono ?_
      rintro e w2 ⟨rfl, hI1, hbw1⟩
      have hbs1 : w.heap.size ≤ w2.heap.size := Nat.le_trans hbs hbw1.size
      go_wp2_with fail
      rw [rounds_succ]
      go_wp2_with fail
      refine (bld_writeByte w.heap.size w.heap.size _ (lt ((a * 65536 + b * 256) / 4096 % 64)) _ hI1 (by first | omega | (simp only [List.length_append, List.length_cons, List.length_nil]; omega)) hbs1).mono ?_
      rintro e w3 ⟨rfl, hI2, hbw2⟩
      have hbs2 : w.heap.size ≤ w3.heap.size := Nat.le_trans hbs1 hbw2.size
      go_wp2_with fail
      rw [rounds_succ]
      go_wp2_with fail
      refine (bld_writeByte w.heap.size w.heap.size _ (lt ((a * 65536 + b * 256) / 64 % 64)) _ hI2 (by first | omega | (simp only [List.length_append, List.length_cons, List.length_nil]; omega)) hbs2).mono ?_
      rintro e w4 ⟨rfl, hI3, hbw3⟩
      have hbs3 : w.heap.size ≤ w4.heap.size := Nat.le_trans hbs2 hbw3.size
      go_wp2_with fail
      rw [rounds_succ]
      go_wp2
      refine ⟨⟨[], zs ++ [lt ((a * 65536 + b * 256) / 262144 % 64)] ++ [lt ((a * 65536 + b * 256) / 4096 % 64)] ++ [lt ((a * 65536 + b * 256) / 64 % 64)], _, _, rfl, .inl rfl, (fun _ h => by cases h), by simp, ?_, by simp only [List.length_append, List.length_cons, List.length_nil]; omega, ?_, (hb.trans ((hb1.mono hb.size).trans (hbw1.trans (hbw2.trans hbw3)))), by simp⟩, by simp [sliceLen]⟩
      · rw [show (a * 65536 + b * 256) / 262144 % 64 = a / 4 from by omega]; rw [show (a * 65536 + b * 256) / 4096 % 64 = a % 4 * 16 + b / 16 from by omega]; rw [show (a * 65536 + b * 256) / 64 % 64 = b % 16 * 4 from by omega]; rw [← hz.out]; exact Lib.hid (by simp [b64L])
      · simpa [numsK] using hI3
    | a :: b :: c :: ys, hr, hy, hl, hz, hzl, hyc =>
      rcases hr with h | ⟨bk, off, rfl, hc⟩
      · cases h
      have ha := hy a (by simp)
      obtain ⟨a0, a1⟩ := ha
      have hc0 : w.cell? ⟨bk, off + 0, none⟩ = some (.int .u8 a) := hc 0 (by simp)
      have hw0 : wr.cell? ⟨bk, off + 0, none⟩ = some (.int .u8 a) := (hb.cell (World.block_lt_of_cell? w _ hc0)).trans hc0
      have hb := hy b (by simp)
      obtain ⟨b0, b1⟩ := hb
      have hc1 : w.cell? ⟨bk, off + 1, none⟩ = some (.int .u8 b) := hc 1 (by simp)
      have hw1 : wr.cell? ⟨bk, off + 1, none⟩ = some (.int .u8 b) := (hb.cell (World.block_lt_of_cell? w _ hc1)).trans hc1
      have hc := hy c (by simp)
      obtain ⟨c0, c1⟩ := hc
      have hc2 : w.cell? ⟨bk, off + 2, none⟩ = some (.int .u8 c) := hc 2 (by simp)
      have hw2 : wr.cell? ⟨bk, off + 2, none⟩ = some (.int .u8 c) := (hb.cell (World.block_lt_of_cell? w _ hc2)).trans hc2
      try simp only [Nat.add_zero] at hc0 hw0
      have hyr : Bytes ys := fun z hz => hy z (by simp [hz])
      have HC : ∀ j, j < ys.length → w.cell? ⟨bk, off + 3 + j, none⟩ = some (.int .u8 (ys.getD j 0)) := fun j hj => by
        have := hc (j + 3) (by simp; omega)
        rw [show off + (j + 3) = off + 3 + j from by omega] at this
        simpa using this
      have HCH := Lib.hid HC
      have HY := Lib.hid hyr
      clear HC hyr
      simp only [List.length_cons] at hl hzl hyc
      clear hc hy
      have hnum : (numsK .u8 zs).length ≤ 140737488355322 := by rw [numsK_length]; omega
      have ho := or3 a b c a0 a1 b0 b1 c0 c1
      obtain ⟨ho1, ho2⟩ := ho
      try simp only [Int.zero_mul, Int.add_zero] at ho1 ho2
      have hn0 := and63 ((a * 65536 + b * 256 + c) / 262144) (by omega) (by omega)
      have hi0 := lt_at ((a * 65536 + b * 256 + c) / 262144 % 64) (by omega) (by omega)
      have hn1 := and63 ((a * 65536 + b * 256 + c) / 4096) (by omega) (by omega)
      have hi1 := lt_at ((a * 65536 + b * 256 + c) / 4096 % 64) (by omega) (by omega)
      have hn2 := and63 ((a * 65536 + b * 256 + c) / 64) (by omega) (by omega)
      have hi2 := lt_at ((a * 65536 + b * 256 + c) / 64 % 64) (by omega) (by omega)
      have hn3 := and63 (a * 65536 + b * 256 + c) (by omega) (by omega)
      have hi3 := lt_at ((a * 65536 + b * 256 + c) % 64) (by omega) (by omega)
      have hg3 : Hid (0 < [Value.int .u8 a, Value.int .u8 b, Value.int .u8 c].length → some (⟨wr.heap.size, 0, none⟩ : Addr) = some ⟨wr.heap.size, 0, none⟩ ∧ ∃ ad, some (⟨bk, off, none⟩ : Addr) = some ad ∧ ∀ j v, [Value.int .u8 a, Value.int .u8 b, Value.int .u8 c][j]? = some v → (wr.alloc (.cells #[.int .u8 0, .int .u8 0, .int .u8 0] 153)).cell? (ad.add j) = some v) := by
        refine fun _ => ⟨rfl, _, rfl, fun j v hj => ?_⟩
        match j, hj with
        | 0, hj => simp at hj; subst hj; rw [show (⟨bk, off, none⟩ : Addr).add 0 = ⟨bk, off, none⟩ from by simp [Addr.add], World.cell?_alloc_lt _ _ _ (World.block_lt_of_cell? wr _ hw0)]; exact hw0
        | 1, hj => simp at hj; subst hj; rw [show (⟨bk, off, none⟩ : Addr).add 1 = ⟨bk, off + 1, none⟩ from by simp [Addr.add], World.cell?_alloc_lt _ _ _ (World.block_lt_of_cell? wr _ hw1)]; exact hw1
        | 2, hj => simp at hj; subst hj; rw [show (⟨bk, off, none⟩ : Addr).add 2 = ⟨bk, off + 2, none⟩ from by simp [Addr.add], World.cell?_alloc_lt _ _ _ (World.block_lt_of_cell? wr _ hw2)]; exact hw2
      have hg1 : Hid ((wr.alloc (.cells #[.int .u8 0, .int .u8 0, .int .u8 0] 153)).heap[wr.heap.size]? = some (.cells #[.int .u8 0, .int .u8 0, .int .u8 0] 153)) := Array.getElem?_push_size
      go_wp2_with (with_reducible refine wpList_copy_splice rfl (.tmp 11) (.tmp 12) 39 39 rfl 5 Tryz.underlying39 (by kernel_rfl) _ _ _ _ _ _ rfl rfl wr.heap.size 0 [.int .u8 0, .int .u8 0, .int .u8 0] 153 hg1.out [.int .u8 a, .int .u8 b, .int .u8 c] (copy_len ys.length) hg3.out (by simp) (copy_one3 a b c) wr.heap.size wr ((Below.refl _ _).alloc (Nat.le_refl _) _) (Nat.le_refl _) ?_)
      intro w1 hh hb1
      have d0 : w1.cell? ⟨wr.heap.size, 0, none⟩ = some (.int .u8 a) := by rw [Lib.cell_of_heap hh.out]; rfl
      have d1 : w1.cell? ⟨wr.heap.size, 1, none⟩ = some (.int .u8 b) := by rw [Lib.cell_of_heap hh.out]; rfl
      have d2 : w1.cell? ⟨wr.heap.size, 2, none⟩ = some (.int .u8 c) := by rw [Lib.cell_of_heap hh.out]; rfl
      have hI0 := bld_kept hI hb1
      have hbs : w.heap.size ≤ w1.heap.size := Nat.le_trans hb.size hb1.size
      go_wp2
      refine wp_loop_rounds 5 ?_
      rw [rounds_succ]
      go_wp2_with fail
      refine (bld_writeByte w.heap.size w.heap.size _ (lt ((a * 65536 + b * 256 + c) / 262144 % 64)) _ hI0 (by first | omega | (simp only [List.length_append, List.length_cons, List.length_nil]; omega)) hbs).mono ?_
      rintro e w2 ⟨rfl, hI1, hbw1⟩
      have hbs1 : w.heap.size ≤ w2.heap.size := Nat.le_trans hbs hbw1.size
      go_wp2_with fail
      rw [rounds_succ]
      go_wp2_with fail
      refine (bld_writeByte w.heap.size w.heap.size _ (lt ((a * 65536 + b * 256 + c) / 4096 % 64)) _ hI1 (by first | omega | (simp only [List.length_append, List.length_cons, List.length_nil]; omega)) hbs1).mono ?_
      rintro e w3 ⟨rfl, hI2, hbw2⟩
      have hbs2 : w.heap.size ≤ w3.heap.size := Nat.le_trans hbs1 hbw2.size
      go_wp2_with fail
      rw [rounds_succ]
      go_wp2_with fail
      refine (bld_writeByte w.heap.size w.heap.size _ (lt ((a * 65536 + b * 256 + c) / 64 % 64)) _ hI2 (by first | omega | (simp only [List.length_append, List.length_cons, List.length_nil]; omega)) hbs2).mono ?_
      rintro e w4 ⟨rfl, hI3, hbw3⟩
      have hbs3 : w.heap.size ≤ w4.heap.size := Nat.le_trans hbs2 hbw3.size
      go_wp2_with fail
      rw [rounds_succ]
      go_wp2_with fail
      refine (bld_writeByte w.heap.size w.heap.size _ (lt ((a * 65536 + b * 256 + c) % 64)) _ hI3 (by first | omega | (simp only [List.length_append, List.length_cons, List.length_nil]; omega)) hbs3).mono ?_
      rintro e w5 ⟨rfl, hI4, hbw4⟩
      have hbs4 : w.heap.size ≤ w5.heap.size := Nat.le_trans hbs3 hbw4.size
      go_wp2_with fail
      rw [rounds_succ]
      go_wp2
      refine ⟨⟨ys, zs ++ [lt ((a * 65536 + b * 256 + c) / 262144 % 64)] ++ [lt ((a * 65536 + b * 256 + c) / 4096 % 64)] ++ [lt ((a * 65536 + b * 256 + c) / 64 % 64)] ++ [lt ((a * 65536 + b * 256 + c) % 64)], _, _, rfl, (rb_tail HCH.out (by omega)), HY.out, by omega, ?_, by simp only [List.length_append, List.length_cons, List.length_nil]; omega, ?_, (hb.trans ((hb1.mono hb.size).trans (hbw1.trans (hbw2.trans (hbw3.trans hbw4))))), by omega⟩, by simp [sliceLen]; omega⟩
      · rw [show (a * 65536 + b * 256 + c) / 262144 % 64 = a / 4 from by omega]; rw [show (a * 65536 + b * 256 + c) / 4096 % 64 = a % 4 * 16 + b / 16 from by omega]; rw [show (a * 65536 + b * 256 + c) / 64 % 64 = b % 16 * 4 + c / 64 from by omega]; rw [show (a * 65536 + b * 256 + c) % 64 = c % 64 from by omega]; rw [← hz.out]; exact Lib.hid (by simp [b64L])
      · simpa [numsK] using hI4
end Go.Proofs.YtjnmjgpkicbbdaaGreatDoor
