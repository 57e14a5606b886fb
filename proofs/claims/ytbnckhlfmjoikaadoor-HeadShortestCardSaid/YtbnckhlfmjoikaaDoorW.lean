/- The law HeadReads, walked: whatever the bytes and the place. -/
import Derived.Test.YtbnckhlfmjoikaaDoorV
import Derived.Test.YtbnckhlfmjoikaaDoorL
namespace Go.Proofs.YtbnckhlfmjoikaaDoor
open Go.RowKit
set_option maxRecDepth 100000
set_option linter.unusedVariables false
set_option linter.unusedSimpArgs false
set_option linter.unnecessarySimpa false

def Seat (W : World) : Prop := ∃ a, Errs a W ∧ Sizes W
theorem seat_of_laid {W : World} (h : laidMetH Tryd.prog Rows.headReadsRow.laid W) : Seat W := by
  obtain ⟨a, hE⟩ := errs_of_laid h
  exact ⟨a, hE, sizes_of_laid (h.filter fun x => x.1 == "crucible/head.sizes")⟩

set_option maxHeartbeats 1000000 in
theorem hr_arg (s : ByteArray) (n : Int) (e1 : Addr) (w : World)
    (h1 : Calls Tryd.prog 14 #[.string s, .int .i64 n] w fun e w' => e = .returned (.tuple #[headV (0, 0, 0, 0), .iface 99 (.pointer (some e1))]) ∧ Below w.heap.size w w')
    (h2 : ∀ W, Calls Tryd.prog 15 #[.string s, .int .i64 n] W fun e w' => e = rans (0, 0, 0, 0) 1 0 ∧ Below W.heap.size W w')
    (h3 : ∀ W, Below w.heap.size w W → Calls Tryd.prog 16 #[.iface 99 (.pointer (some e1)), .int .i64 1] W fun e w' => e = .returned (.bool true) ∧ Below W.heap.size W w') :
    Calls Tryd.prog 5 #[.string s, .int .i64 n] w fun e w' => e = .returned (.bool true) ∧ Below w.heap.size w w' := by
  have heq := fun W => eqH 0 0 0 0 W
  unfold rans headV at *
  go_enter Tryd.func5, Tryd.ntmps5
  go_upto_region 3 with (first
    | (go_at_call 14; refine h1.mono ?_; rintro e w1 ⟨rfl, hb1⟩)
    | (go_at_call 15; refine (h2 _).mono ?_; rintro e w2 ⟨rfl, hb2⟩))
  obtain ⟨La, Lb, Lc, hB⟩ := hr_blocks w1 w2 _ #[.int .u8 0, .int .u8 0, .int .u64 0, .int .i64 0] rfl hb2 (fltA 1 0)
  show Code.wp _ _ _ _ ((w2.alloc (.cells #[.int .u8 0, .int .u8 0, .int .u64 0, .int .i64 0] 29)).alloc (.cells (fltA 1 0) 35))
  generalize ((w2.alloc (.cells #[.int .u8 0, .int .u8 0, .int .u64 0, .int .i64 0] 29)).alloc (.cells (fltA 1 0) 35)) = W3 at La Lb Lc hB ⊢
  have c0 : W3.cell? ⟨w2.heap.size + 1, 0, none⟩ = some (.int .i64 1) := Lc.cell 0
  have hl1 := La.lt
  have hl2 := Lb.lt
  have hBw := hb1.trans (hB.mono hb1.size)
  have hC := h3 W3 hBw
  have hX : Hid (∀ w5, Below W3.heap.size W3 w5 → Lies w5 w1.heap.size #[.int .u8 0, .int .u8 0, .int .u64 0, .int .i64 0] 29 ∧ Lies w5 w2.heap.size #[.int .u8 0, .int .u8 0, .int .u64 0, .int .i64 0] 29 ∧ Below w.heap.size w w5) := Lib.hid fun w5 h => ⟨La.below h hl1, Lb.below h hl2, hBw.trans (h.mono hBw.size)⟩
  clear La Lb Lc hB h1 h2 h3 hb2 hb1 hl1 hl2 hBw
  go_wp2_with (go_at_call 16; refine hC.mono ?_; rintro e w5 ⟨rfl, hb5⟩; obtain ⟨q1, q2, q3⟩ := hX.out w5 hb5; have r0 := q1.cell 0; have r1 := q1.cell 1; have r2 := q1.cell 2; have r3 := q1.cell 3; have s0 := q2.cell 0; have s1 := q2.cell 1; have s2 := q2.cell 2; have s3 := q2.cell 3; simp at r0 r1 r2 r3 s0 s1 s2 s3)
  go_ret
  exact ⟨rfl, q3⟩

theorem headReads_any (s : ByteArray) (n : Int) (w : World) (hw : Seat w) (hs : s.size ≤ 140737488351232) :
    Calls Tryd.prog 5 #[.string s, .int .i64 n] w fun e w' => e = .returned (.bool true) ∧ Below w.heap.size w w' := by
  obtain ⟨a, hE, hS⟩ := hw
  by_cases hn : n < 0 ∨ (s.size : Int) < n
  · refine hr_arg s n (a 1) w (read_arg a s n w hE hs hn) (fun W => rread_arg s n W hs hn) fun W hb => ?_
    refine (is_sent a 1 1 W (hE.below hb) (by omega) (by omega)).mono ?_
    rintro e w' ⟨rfl, h⟩
    exact ⟨rfl, h⟩
  · obtain ⟨k, rfl⟩ : ∃ k : Nat, n = k := ⟨n.toNat, by omega⟩
    have h1 := read_any a s k w hE hS hs (by omega)
    have h2 := fun W => rread_any s k W hs (by omega)
    rcases hr : readF s k with q | ⟨m, i, x, z⟩
    · rw [hr] at h1
      simp only [hr] at h2
      refine hr_any s k 0 0 0 0 3 q w (by decide) (h1.mono ?_) h2
      rintro e w' ⟨p, rfl, hF, hb⟩
      refine ⟨_, rfl, hb, fun W hb2 => ?_⟩
      refine (isat_fault a 3 p q q W ((hE.below hb).below hb2) (by omega) (by omega) (hF.below hb2)).mono ?_
      rintro e w'' ⟨rfl, h⟩
      exact ⟨by simp, h⟩
    · rw [hr] at h1
      simp only [hr] at h2
      refine hr_any s k m i x z 0 0 w (by decide) (h1.mono ?_) h2
      rintro e w' ⟨rfl, hb⟩
      refine ⟨_, rfl, hb, fun W hb2 => (isat_nil 0 W).mono ?_⟩
      rintro e w'' ⟨rfl, rfl⟩
      exact ⟨rfl, Below.refl _ _⟩
theorem hreadsWalk (s : ByteArray) (n : Int) (w : World) (hw : Seat w) (hs : s.size ≤ 140737488351232) (_ : -9223372036854775808 ≤ n) (_ : n ≤ 9223372036854775807) :
    Calls Tryd.prog 5 #[.string s, .int .i64 n] w fun e w' => e = .returned (.bool true) ∧ Below w.heap.size w w' := headReads_any s n w hw hs
end Go.Proofs.YtbnckhlfmjoikaaDoor
