/- The law HeadReads, walked. -/
import Derived.Test.YtbnckhlfmjoikaaDoorU
namespace Go.Proofs.YtbnckhlfmjoikaaDoor
open Go.RowKit
set_option maxRecDepth 100000
set_option linter.unusedVariables false
set_option linter.unusedSimpArgs false
set_option linter.unnecessarySimpa false

def ransR (r : Except Nat (Int × Int × Int × Int)) : Ending :=
  match r with
  | .ok x => rans x 0 0
  | .error q => rans (0, 0, 0, 0) 3 q
theorem rread_any (s : ByteArray) (n : Nat) (w : World) (hs : s.size ≤ 140737488351232) (hn : n ≤ s.size) :
    Calls Tryd.prog 15 #[.string s, .int .i64 n] w fun e w' => e = ransR (readF s n) ∧ Below w.heap.size w w' := by
  by_cases h : s.size ≤ n
  · rw [readF, if_pos h]
    exact rread_end s n w hs (by omega)
  have hr1 := at1_range s n
  have hr0 := (at1_in s n).2 (by omega)
  obtain ⟨c, hc⟩ : ∃ c, at1 s n = c := ⟨_, rfl⟩
  obtain ⟨m, hm⟩ : ∃ m, c / 32 = m := ⟨_, rfl⟩
  obtain ⟨i, hi⟩ : ∃ i, c % 32 = i := ⟨_, rfl⟩
  rw [readF, if_neg h, hc, hm, hi]
  by_cases h24 : i < 24
  · have e : behF m i = 0 := by rw [behF, if_pos h24]
    rw [e, if_neg (by decide), if_neg (by simp; omega), if_pos h24]
    exact rread_direct s n c m i w hs (by omega) hc hm hi e h24
  have key : behF m i = -1 ∨ ∃ z : Nat, behF m i = z ∧ z ≤ 8 := by
    unfold behF
    rw [if_neg h24]
    (repeat' split)
    · exact .inr ⟨1, rfl, by omega⟩
    · exact .inr ⟨2, rfl, by omega⟩
    · exact .inr ⟨4, rfl, by omega⟩
    · exact .inr ⟨8, rfl, by omega⟩
    · exact .inr ⟨0, rfl, by omega⟩
    · exact .inl rfl
  rcases key with e | ⟨z, e, hz⟩
  · rw [e, if_pos (by decide)]
    exact rread_none s n c m i w hs (by omega) hc hm hi e
  · rw [e, if_neg (by omega), Int.toNat_natCast]
    by_cases hsh : s.size < n + 1 + z
    · rw [if_pos hsh]
      exact rread_short s n c m i w hs (by omega) hc hm hi z e hsh
    · rw [if_neg hsh, if_neg h24]
      exact rread_loop s n c m i w hs (by omega) hc hm hi z e h24 hz (by omega)

theorem isat_nil (m : Int) (w : World) : Calls Tryd.prog 17 #[.nilIface, .int .i64 0, .int .i64 m] w fun e w' => e = .returned (.bool true) ∧ w = w' := by
  go_enter Tryd.func17, Tryd.ntmps17
  go_wp2
  go_ret
  exact ⟨rfl, rfl⟩

theorem eqH4 (a b c d a' b' c' d' : Int) (W : World) : (binOp BinOp.eql 29 (.agg #[.int .u8 a, .int .u8 b, .int .u64 c, .int .i64 d]) (.agg #[.int .u8 a', .int .u8 b', .int .u64 c', .int .i64 d'])).run Tryd.prog W = .ok (.bool (a == a' && (b == b' && (c == c' && d == d')))) W := by
  have u3 := Tryd.underlying3
  have u5 := Tryd.underlying5
  have u22 := Tryd.underlying22
  have a3 := Tryd.isAgg3
  have a5 := Tryd.isAgg5
  have a22 := Tryd.isAgg22
  have z3 := Tryd.sizeOf3
  have z5 := Tryd.sizeOf5
  have z22 := Tryd.sizeOf22
  have hS : Tryd.prog.underlying 29 = some (.struct (Tryd.prog.fieldsOf 29)) := by kernel_rfl
  have hp : Tryd.prog.stoodInHeld 29 = false := by kernel_rfl
  rw [run_eql_struct, show (10000 : Nat) = 9999 + 1 from rfl, run_equalIn_agg W 9999 29 _ _ hS hp]
  simp only [Program.fieldsOf, Tryd.underlying29]
  go_simp
  by_cases h1 : a = a' <;> by_cases h2 : b = b' <;> by_cases h3 : c = c' <;> by_cases h4 : d = d' <;> simp [h1, h2, h3, h4]
theorem eqH (m i x z : Int) (W : World) : (binOp BinOp.eql 29 (headV (m, i, x, z)) (headV (m, i, x, z))).run Tryd.prog W = .ok (.bool true) W := by
  unfold headV
  rw [eqH4]
  simp
/-- The worlds of the law behind its two calls. -/
theorem hr_blocks (w1 w2 : World) (A B : Array Value) (hA : A.size = 4) (hb : Below (w1.alloc (.cells A 29)).heap.size (w1.alloc (.cells A 29)) w2) (F : Array Value) :
    Lies ((w2.alloc (.cells B 29)).alloc (.cells F 35)) w1.heap.size A 29 ∧ Lies ((w2.alloc (.cells B 29)).alloc (.cells F 35)) w2.heap.size B 29 ∧ Lies ((w2.alloc (.cells B 29)).alloc (.cells F 35)) (w2.heap.size + 1) F 35 ∧ Below w1.heap.size w1 ((w2.alloc (.cells B 29)).alloc (.cells F 35)) := by
  have hs := hb.size
  rw [World.size_alloc] at hs
  have L1 : Lies w2 w1.heap.size A 29 := (hb.block _ (by rw [World.size_alloc]; omega)).trans Array.getElem?_push_size
  refine ⟨?_, ?_, ?_, ?_⟩
  · exact (Below.heap_alloc _ _ _ (by rw [World.size_alloc]; omega)).trans ((Below.heap_alloc _ _ _ (by omega)).trans L1)
  · exact (Below.heap_alloc _ _ _ (by rw [World.size_alloc]; omega)).trans Array.getElem?_push_size
  · have := Array.getElem?_push_size (xs := (w2.alloc (.cells B 29)).heap) (x := Obj.cells F 35)
    rwa [World.size_alloc] at this
  · exact ((below_hw hb).alloc (by omega) _).alloc (by rw [World.size_alloc]; omega) _
set_option maxHeartbeats 1000000 in
theorem hr_any (s : ByteArray) (n m i x z k q : Int) (w : World) (hk : (k == 1) = false)
    (h1 : Calls Tryd.prog 14 #[.string s, .int .i64 n] w fun e w' => ∃ err, e = .returned (.tuple #[headV (m, i, x, z), err]) ∧ Below w.heap.size w w' ∧ ∀ W, Below w'.heap.size w' W → Calls Tryd.prog 17 #[err, .int .i64 k, .int .i64 q] W fun e w'' => e = .returned (.bool true) ∧ Below W.heap.size W w'')
    (h2 : ∀ W, Calls Tryd.prog 15 #[.string s, .int .i64 n] W fun e w' => e = rans (m, i, x, z) k q ∧ Below W.heap.size W w') :
    Calls Tryd.prog 5 #[.string s, .int .i64 n] w fun e w' => e = .returned (.bool true) ∧ Below w.heap.size w w' := by
  have heq := fun W => eqH m i x z W
  unfold rans headV at *
  go_enter Tryd.func5, Tryd.ntmps5
  go_upto_region 3 with (first
    | (go_at_call 14; refine h1.mono ?_; rintro e w1 ⟨err, rfl, hb1, hI⟩)
    | (go_at_call 15; refine (h2 _).mono ?_; rintro e w2 ⟨rfl, hb2⟩))
  obtain ⟨La, Lb, Lc, hB⟩ := hr_blocks w1 w2 _ #[.int .u8 m, .int .u8 i, .int .u64 x, .int .i64 z] rfl hb2 (fltA k q)
  show Code.wp _ _ _ _ ((w2.alloc (.cells #[.int .u8 m, .int .u8 i, .int .u64 x, .int .i64 z] 29)).alloc (.cells (fltA k q) 35))
  generalize ((w2.alloc (.cells #[.int .u8 m, .int .u8 i, .int .u64 x, .int .i64 z] 29)).alloc (.cells (fltA k q) 35)) = W3 at La Lb Lc hB ⊢
  have c0 : W3.cell? ⟨w2.heap.size + 1, 0, none⟩ = some (.int .i64 k) := Lc.cell 0
  have c1 : W3.cell? ⟨w2.heap.size + 1, 1, none⟩ = some (.int .i64 q) := Lc.cell 1
  have hC := hI W3 hB
  have hl1 := La.lt
  have hl2 := Lb.lt
  have hBw := hb1.trans (hB.mono hb1.size)
  have hX : Hid (∀ w5, Below W3.heap.size W3 w5 → Lies w5 w1.heap.size #[.int .u8 m, .int .u8 i, .int .u64 x, .int .i64 z] 29 ∧ Lies w5 w2.heap.size #[.int .u8 m, .int .u8 i, .int .u64 x, .int .i64 z] 29 ∧ Below w.heap.size w w5) := Lib.hid fun w5 h => ⟨La.below h hl1, Lb.below h hl2, hBw.trans (h.mono hBw.size)⟩
  clear La Lb Lc hB hI h1 h2 hb2 hb1 hl1 hl2 hBw
  go_wp2_with (go_at_call 17; refine hC.mono ?_; rintro e w5 ⟨rfl, hb5⟩; obtain ⟨q1, q2, q3⟩ := hX.out w5 hb5; have r0 := q1.cell 0; have r1 := q1.cell 1; have r2 := q1.cell 2; have r3 := q1.cell 3; have s0 := q2.cell 0; have s1 := q2.cell 1; have s2 := q2.cell 2; have s3 := q2.cell 3; simp at r0 r1 r2 r3 s0 s1 s2 s3)
  go_ret
  exact ⟨rfl, q3⟩
end Go.Proofs.YtbnckhlfmjoikaaDoor
