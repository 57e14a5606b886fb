/- The document's reading of letters: their bits. -/
import Derived.Test.YtjnmjgpkicbbdaaGreatDoorRa
namespace Go.Proofs.YtjnmjgpkicbbdaaGreatDoor
open Go.RowKit
set_option maxRecDepth 100000
set_option linter.unusedVariables false
set_option linter.unusedSimpArgs false
set_option linter.unnecessarySimpa false

def lbits (bitsN : Int → List Int) (s al : ByteArray) : Nat → List Int
  | 0 => []
  | k + 1 => lbits bitsN s al k ++ bitsN (lastIn al (sAt s k) al.size)
theorem lbits_len (bitsN : Int → List Int) (n : Nat) (h : ∀ x, (bitsN x).length = n) (s al : ByteArray) : ∀ k, (lbits bitsN s al k).length = n * k
  | 0 => rfl
  | k + 1 => by simp only [lbits, List.length_append, h, lbits_len bitsN n h s al k]; rw [Nat.mul_succ]
def bytesL (ls : List Int) : Nat → List Int
  | 0 => []
  | k + 1 => bytesL ls k ++ [take0 8 (ls.drop (8 * k)) 0]
theorem bytesL_len (ls : List Int) : ∀ k, (bytesL ls k).length = k
  | 0 => rfl
  | k + 1 => by simp [bytesL, bytesL_len ls k]
theorem lbits_bit (bitsN : Int → List Int) (h : ∀ x, ∀ y ∈ bitsN x, 0 ≤ y ∧ y ≤ 1) (s al : ByteArray) : ∀ k, ∀ y ∈ lbits bitsN s al k, 0 ≤ y ∧ y ≤ 1
  | 0, y, hy => by simp [lbits] at hy
  | k + 1, y, hy => by
    rcases List.mem_append.1 hy with hy | hy
    · exact lbits_bit bitsN h s al k y hy
    · exact h _ y hy
theorem bits4_bit (x : Int) : ∀ y ∈ bits4 x, 0 ≤ y ∧ y ≤ 1 := by
  intro y h
  simp only [bits4, List.mem_cons, List.not_mem_nil, or_false] at h
  rcases h with rfl | rfl | rfl | rfl <;> omega
theorem bits6_bit (x : Int) : ∀ y ∈ bits6 x, 0 ≤ y ∧ y ≤ 1 := by
  intro y h
  simp only [bits6, List.mem_cons, List.not_mem_nil, or_false] at h
  rcases h with rfl | rfl | rfl | rfl | rfl | rfl <;> omega

set_option maxHeartbeats 2000000 in
theorem read4_any (s al : ByteArray) (w : World) (hs : s.size ≤ 16777216) (hal : al.size ≤ 64) :
    Calls Tryz.prog 12 #[.string s, .int .i64 4, .string al] w fun e w' => ∃ v, e = .returned v ∧ (∃ B, w.heap.size ≤ B ∧ Own w' B 5 .u8 v (bytesL (lbits bits4 s al s.size) (4 * s.size / 8))) ∧ Below w.heap.size w w' := by
  have hal0 : Hid (al.size ≤ 64) := Lib.hid hal
  obtain ⟨R, hR⟩ : ∃ R, bytesL (lbits bits4 s al s.size) (4 * s.size / 8) = R := ⟨_, rfl⟩
  rw [hR]
  have HR := Lib.hid hR
  clear hR
  go_enter Tryz.func12, Tryz.ntmps12
  go_wp2
  go_loopw [7, 8] (fun v i W => ∃ k : Nat, k ≤ s.size ∧ i = .int .i64 k ∧ Own W w.heap.size 3 .i64 v (lbits bits4 s al k) ∧ Below w.heap.size w W) (fun _ i _ => s.size - (intOf i).toNat)
  case atStart => exact ⟨0, by omega, rfl, Own.nil _ _ _ _, Below.refl _ _⟩
  case round =>
    obtain ⟨k, hk, rfl, ho, hb⟩ := hrel
    by_cases hlt : k < s.size
    · have hlti : (k : Int) < s.size := by omega
      have hidx := sAt_run s k hlt
      have HO := Lib.hid ho
      have HB := Lib.hid hb
      clear ho hb
      obtain ⟨c, hc⟩ : ∃ c, sAt s k = c := ⟨_, rfl⟩
      rw [hc] at hidx
      have HC := Lib.hid hc
      clear hc
      obtain ⟨wo, rfl⟩ : ∃ wo, wo = wr := ⟨_, rfl⟩
      go_upto_region 7 with fail
      go_loopw [9, 10] (fun x i W => ∃ q : Nat, i = .int .i64 q ∧ q ≤ al.size ∧ x = .int .i64 (lastIn al c q) ∧ Hid (Below wo.heap.size wo W)) (fun _ i _ => al.size - (intOf i).toNat)
      case atStart => exact ⟨0, rfl, by omega, rfl, Lib.hid (Below.refl _ _)⟩
      case round =>
        obtain ⟨q, rfl, hq, rfl, HW⟩ := hrel
        by_cases hlq : q < al.size
        · have hqi : (q : Int) < al.size := by omega
          have hidx2 := sAt_run al q hlq
          obtain ⟨d, hd⟩ : ∃ d, sAt al q = d := ⟨_, rfl⟩
          rw [hd] at hidx2
          have HD := Lib.hid hd
          clear hd
          go_upto_region 9 with fail
          have HLQ : Hid (lastIn al c (q + 1) = if d = c then (q : Int) else lastIn al c q) := Lib.hid (by rw [← HD.out]; rfl)
          generalize lastIn al c q = x at *
          go_cut [32] from 26 to 32 (fun y W => y = .bool (d == c) ∧ Hid (Below wo.heap.size wo W))
          case first =>
            go_quiet (fail)
            go_wp2_with fail
            go_meet
            exact ⟨rfl, Lib.hid ⟨HW.out.os, HW.out.tape, HW.out.output, HW.out.size, HW.out.block⟩⟩
          case rest =>
            obtain ⟨rfl, HW2⟩ := hcut
            clear HW hidx2
            by_cases hdc : d = c
            · have hdb : (d == c) = true := by simpa using hdc
              have HLQ2 : Hid (lastIn al c (q + 1) = (q : Int)) := Lib.hid (by rw [HLQ.out, if_pos hdc])
              rw [hdb]
              clear HLQ hdc hdb
              go_wp2
              go_roundw
              case rel => exact ⟨q + 1, by go_num, by omega, by rw [HLQ2.out], HW2⟩
              case measure => simp only [intOf]; omega
            · have hdb : (d == c) = false := by simpa using hdc
              have HLQ2 : Hid (lastIn al c (q + 1) = x) := Lib.hid (by rw [HLQ.out, if_neg hdc])
              rw [hdb]
              clear HLQ hdc hdb
              go_wp2
              go_roundw
              case rel => exact ⟨q + 1, by go_num, by omega, by rw [HLQ2.out], HW2⟩
              case measure => simp only [intOf]; omega
        · obtain rfl : q = al.size := by omega
          have hxr := lastIn_range al c al.size
          obtain ⟨x, hx⟩ : ∃ x, lastIn al c al.size = x := ⟨_, rfl⟩
          rw [hx] at hxr ⊢
          obtain ⟨hx0, hx1⟩ := hxr
          have hx2 : x ≤ 64 := by omega
          have hb0 : Below w.heap.size w wr := HB.out.trans (HW.out.mono HB.out.size)
          have ho1 := HO.out.kept HW.out
          have hlen := lbits_len bits4 4 (fun _ => rfl) s al k
          have HSN : Hid (lbits bits4 s al (k + 1) = lbits bits4 s al k ++ bits4 x) := Lib.hid (by rw [← hx, ← HC.out]; rfl)
          generalize lbits bits4 s al k = ys at ho1 hlen HSN
          have HLN := Lib.hid hlen
          have hb1 := hb0
          clear HO HB HW hx hb0 hlen hq hlq hidx HC
          go_upto_region 12 with fail
          refine wp_loop_rounds 5 ?_
          repeat any_goals (rw [rounds_succ]; go_wp2_with (at_builtin; refine app1 w.heap.size rfl (.tmp 40) (.tmp 45) 54 3 .i64 8 rfl Tryz.underlying54 info_int _ _ _ rfl rfl ho1 hb1 hb1.size (by have := HLN.out; simp; omega) (by have := HLN.out; simp; omega) ?_; intro v1 w3 ho1 hb1 _))
          exact ⟨⟨k + 1, by omega, by go_num, by rw [HSN.out]; simpa [bits4] using ho1, hb1⟩, by simp [intOf]; omega⟩
    · obtain rfl : k = s.size := by omega
      have hlen := lbits_len bits4 4 (fun _ => rfl) s al s.size
      have hbit := lbits_bit bits4 bits4_bit s al s.size
      generalize lbits bits4 s al s.size = ls at ho hlen hbit HR
      obtain ⟨A, c, hv, hRK, hc1, _⟩ := ho.slice
      subst hv
      have h8 := take0_lt 8 ls hbit
      obtain ⟨M, hM⟩ : ∃ M, ls.length = M := ⟨_, rfl⟩
      rw [hM] at hlen hc1
      have HT : Hid (∀ (a : Nat) (W : World), a ≤ 268435456 → Below wr.heap.size wr W → Calls Tryz.prog 62 #[.slice A M c, .int .i64 a, .int .i64 8] W fun e w' => e = .returned (.int .i64 (take0 8 (ls.drop a) 0)) ∧ Below W.heap.size W w') := Lib.hid fun a W ha hW => take_any A c M a 8 ls W hbit hM (by omega) ha (by omega) (hRK.below hW)
      have H8 := Lib.hid h8
      have HM := Lib.hid hM
      have HB := Lib.hid hb
      have hM2 : M ≤ 268435456 := by omega
      have HR2 : Hid (bytesL ls (M / 8) = R) := Lib.hid (by rw [← HR.out, ← hlen])
      rw [show (Value.slice A ls.length c) = Value.slice A M c from by rw [hM]]
      clear hbit HR h8 ho hRK hM hb hlt hk hlen
      obtain ⟨wo, rfl⟩ : ∃ wo, wo = wr := ⟨_, rfl⟩
      go_upto_region 17 with fail
      go_loopw [12, 13] (fun v i W => ∃ q b : Nat, b = 8 * q ∧ b ≤ M ∧ i = .int .i64 b ∧ Own W wo.heap.size 5 .u8 v (bytesL ls q) ∧ Below wo.heap.size wo W) (fun _ i _ => M - (intOf i).toNat)
      case atStart => exact ⟨0, 0, rfl, by omega, rfl, Own.nil _ _ _ _, Below.refl _ _⟩
      case round =>
        obtain ⟨q, b, hb8, hbM, rfl, ho, hb⟩ := hrel
        by_cases hlt : b + 8 ≤ M
        · have hli : (b : Int) + 8 ≤ M := by omega
          have ht := HT.out b wr (by omega) hb
          have h9 := H8.out b
          obtain ⟨t, hte⟩ : ∃ t, take0 8 (ls.drop b) 0 = t := ⟨_, rfl⟩
          rw [hte] at ht h9
          have ht0 : 0 ≤ t := by omega
          have ht1 : t ≤ 255 := by omega
          have HSN : Hid (bytesL ls (q + 1) = bytesL ls q ++ [t]) := Lib.hid (by rw [← hte, hb8]; rfl)
          have hlb := bytesL_len ls q
          generalize bytesL ls q = ys at ho HSN hlb
          have HLB := Lib.hid hlb
          have H88 := Lib.hid hb8
          clear h9 hte hlb hb8
          go_wp2_with (first | (go_at_call 62; refine ht.mono ?_; rintro e w2 ⟨rfl, hb2⟩; have hb3 := Below.trans hb (hb2.mono hb.size); have ho2 := ho.kept hb2) | (at_builtin; refine app1 wo.heap.size rfl (.tmp 54) (.tmp 59) 39 5 .u8 1 rfl Tryz.underlying39 info_byte _ _ _ rfl rfl ho2 hb3 hb3.size (by have := HLB.out; have := H88.out; omega) (by have := HLB.out; have := H88.out; omega) ?_; intro v1 w3 ho3 hb4 _))
          go_roundw
          case rel => exact ⟨q + 1, b + 8, by have := H88.out; omega, by omega, by go_num, by rw [HSN.out]; exact ho3, hb4⟩
          case measure => simp only [intOf]; omega
        · have hq : q = M / 8 := by omega
          subst hq
          have hB2 := HB.out.trans (hb.mono HB.out.size)
          rw [HR2.out] at ho
          have HO := Lib.hid ho
          have hge : ¬ (b : Int) + 8 ≤ M := by omega
          clear ho hb8
          go_wp2
          go_ret
          exact ⟨_, rfl, ⟨_, HB.out.size, HO.out⟩, hB2⟩

set_option maxHeartbeats 2000000 in
theorem read6_any (s al : ByteArray) (w : World) (hs : s.size ≤ 16777216) (hal : al.size ≤ 64) :
    Calls Tryz.prog 12 #[.string s, .int .i64 6, .string al] w fun e w' => ∃ v, e = .returned v ∧ (∃ B, w.heap.size ≤ B ∧ Own w' B 5 .u8 v (bytesL (lbits bits6 s al s.size) (6 * s.size / 8))) ∧ Below w.heap.size w w' := by
  have hal0 : Hid (al.size ≤ 64) := Lib.hid hal
  obtain ⟨R, hR⟩ : ∃ R, bytesL (lbits bits6 s al s.size) (6 * s.size / 8) = R := ⟨_, rfl⟩
  rw [hR]
  have HR := Lib.hid hR
  clear hR
  go_enter Tryz.func12, Tryz.ntmps12
  go_wp2
  go_loopw [7, 8] (fun v i W => ∃ k : Nat, k ≤ s.size ∧ i = .int .i64 k ∧ Own W w.heap.size 3 .i64 v (lbits bits6 s al k) ∧ Below w.heap.size w W) (fun _ i _ => s.size - (intOf i).toNat)
  case atStart => exact ⟨0, by omega, rfl, Own.nil _ _ _ _, Below.refl _ _⟩
  case round =>
    obtain ⟨k, hk, rfl, ho, hb⟩ := hrel
    by_cases hlt : k < s.size
    · have hlti : (k : Int) < s.size := by omega
      have hidx := sAt_run s k hlt
      have HO := Lib.hid ho
      have HB := Lib.hid hb
      clear ho hb
      obtain ⟨c, hc⟩ : ∃ c, sAt s k = c := ⟨_, rfl⟩
      rw [hc] at hidx
      have HC := Lib.hid hc
      clear hc
      obtain ⟨wo, rfl⟩ : ∃ wo, wo = wr := ⟨_, rfl⟩
      go_upto_region 7 with fail
      go_loopw [9, 10] (fun x i W => ∃ q : Nat, i = .int .i64 q ∧ q ≤ al.size ∧ x = .int .i64 (lastIn al c q) ∧ Hid (Below wo.heap.size wo W)) (fun _ i _ => al.size - (intOf i).toNat)
      case atStart => exact ⟨0, rfl, by omega, rfl, Lib.hid (Below.refl _ _)⟩
      case round =>
        obtain ⟨q, rfl, hq, rfl, HW⟩ := hrel
        by_cases hlq : q < al.size
        · have hqi : (q : Int) < al.size := by omega
          have hidx2 := sAt_run al q hlq
          obtain ⟨d, hd⟩ : ∃ d, sAt al q = d := ⟨_, rfl⟩
          rw [hd] at hidx2
          have HD := Lib.hid hd
          clear hd
          go_upto_region 9 with fail
          have HLQ : Hid (lastIn al c (q + 1) = if d = c then (q : Int) else lastIn al c q) := Lib.hid (by rw [← HD.out]; rfl)
          generalize lastIn al c q = x at *
          go_cut [32] from 26 to 32 (fun y W => y = .bool (d == c) ∧ Hid (Below wo.heap.size wo W))
          case first =>
            go_quiet (fail)
            go_wp2_with fail
            go_meet
            exact ⟨rfl, Lib.hid ⟨HW.out.os, HW.out.tape, HW.out.output, HW.out.size, HW.out.block⟩⟩
          case rest =>
            obtain ⟨rfl, HW2⟩ := hcut
            clear HW hidx2
            by_cases hdc : d = c
            · have hdb : (d == c) = true := by simpa using hdc
              have HLQ2 : Hid (lastIn al c (q + 1) = (q : Int)) := Lib.hid (by rw [HLQ.out, if_pos hdc])
              rw [hdb]
              clear HLQ hdc hdb
              go_wp2
              go_roundw
              case rel => exact ⟨q + 1, by go_num, by omega, by rw [HLQ2.out], HW2⟩
              case measure => simp only [intOf]; omega
            · have hdb : (d == c) = false := by simpa using hdc
              have HLQ2 : Hid (lastIn al c (q + 1) = x) := Lib.hid (by rw [HLQ.out, if_neg hdc])
              rw [hdb]
              clear HLQ hdc hdb
              go_wp2
              go_roundw
              case rel => exact ⟨q + 1, by go_num, by omega, by rw [HLQ2.out], HW2⟩
              case measure => simp only [intOf]; omega
        · obtain rfl : q = al.size := by omega
          have hxr := lastIn_range al c al.size
          obtain ⟨x, hx⟩ : ∃ x, lastIn al c al.size = x := ⟨_, rfl⟩
          rw [hx] at hxr ⊢
          obtain ⟨hx0, hx1⟩ := hxr
          have hx2 : x ≤ 64 := by omega
          have hb0 : Below w.heap.size w wr := HB.out.trans (HW.out.mono HB.out.size)
          have ho1 := HO.out.kept HW.out
          have hlen := lbits_len bits6 6 (fun _ => rfl) s al k
          have HSN : Hid (lbits bits6 s al (k + 1) = lbits bits6 s al k ++ bits6 x) := Lib.hid (by rw [← hx, ← HC.out]; rfl)
          generalize lbits bits6 s al k = ys at ho1 hlen HSN
          have HLN := Lib.hid hlen
          have hb1 := hb0
          clear HO HB HW hx hb0 hlen hq hlq hidx HC
          go_upto_region 12 with fail
          refine wp_loop_rounds 7 ?_
          repeat any_goals (rw [rounds_succ]; go_wp2_with (at_builtin; refine app1 w.heap.size rfl (.tmp 40) (.tmp 45) 54 3 .i64 8 rfl Tryz.underlying54 info_int _ _ _ rfl rfl ho1 hb1 hb1.size (by have := HLN.out; simp; omega) (by have := HLN.out; simp; omega) ?_; intro v1 w3 ho1 hb1 _))
          exact ⟨⟨k + 1, by omega, by go_num, by rw [HSN.out]; simpa [bits6] using ho1, hb1⟩, by simp [intOf]; omega⟩
    · obtain rfl : k = s.size := by omega
      have hlen := lbits_len bits6 6 (fun _ => rfl) s al s.size
      have hbit := lbits_bit bits6 bits6_bit s al s.size
      generalize lbits bits6 s al s.size = ls at ho hlen hbit HR
      obtain ⟨A, c, hv, hRK, hc1, _⟩ := ho.slice
      subst hv
      have h8 := take0_lt 8 ls hbit
      obtain ⟨M, hM⟩ : ∃ M, ls.length = M := ⟨_, rfl⟩
      rw [hM] at hlen hc1
      have HT : Hid (∀ (a : Nat) (W : World), a ≤ 268435456 → Below wr.heap.size wr W → Calls Tryz.prog 62 #[.slice A M c, .int .i64 a, .int .i64 8] W fun e w' => e = .returned (.int .i64 (take0 8 (ls.drop a) 0)) ∧ Below W.heap.size W w') := Lib.hid fun a W ha hW => take_any A c M a 8 ls W hbit hM (by omega) ha (by omega) (hRK.below hW)
      have H8 := Lib.hid h8
      have HM := Lib.hid hM
      have HB := Lib.hid hb
      have hM2 : M ≤ 268435456 := by omega
      have HR2 : Hid (bytesL ls (M / 8) = R) := Lib.hid (by rw [← HR.out, ← hlen])
      rw [show (Value.slice A ls.length c) = Value.slice A M c from by rw [hM]]
      clear hbit HR h8 ho hRK hM hb hlt hk hlen
      obtain ⟨wo, rfl⟩ : ∃ wo, wo = wr := ⟨_, rfl⟩
      go_upto_region 17 with fail
      go_loopw [12, 13] (fun v i W => ∃ q b : Nat, b = 8 * q ∧ b ≤ M ∧ i = .int .i64 b ∧ Own W wo.heap.size 5 .u8 v (bytesL ls q) ∧ Below wo.heap.size wo W) (fun _ i _ => M - (intOf i).toNat)
      case atStart => exact ⟨0, 0, rfl, by omega, rfl, Own.nil _ _ _ _, Below.refl _ _⟩
      case round =>
        obtain ⟨q, b, hb8, hbM, rfl, ho, hb⟩ := hrel
        by_cases hlt : b + 8 ≤ M
        · have hli : (b : Int) + 8 ≤ M := by omega
          have ht := HT.out b wr (by omega) hb
          have h9 := H8.out b
          obtain ⟨t, hte⟩ : ∃ t, take0 8 (ls.drop b) 0 = t := ⟨_, rfl⟩
          rw [hte] at ht h9
          have ht0 : 0 ≤ t := by omega
          have ht1 : t ≤ 255 := by omega
          have HSN : Hid (bytesL ls (q + 1) = bytesL ls q ++ [t]) := Lib.hid (by rw [← hte, hb8]; rfl)
          have hlb := bytesL_len ls q
          generalize bytesL ls q = ys at ho HSN hlb
          have HLB := Lib.hid hlb
          have H88 := Lib.hid hb8
          clear h9 hte hlb hb8
          go_wp2_with (first | (go_at_call 62; refine ht.mono ?_; rintro e w2 ⟨rfl, hb2⟩; have hb3 := Below.trans hb (hb2.mono hb.size); have ho2 := ho.kept hb2) | (at_builtin; refine app1 wo.heap.size rfl (.tmp 54) (.tmp 59) 39 5 .u8 1 rfl Tryz.underlying39 info_byte _ _ _ rfl rfl ho2 hb3 hb3.size (by have := HLB.out; have := H88.out; omega) (by have := HLB.out; have := H88.out; omega) ?_; intro v1 w3 ho3 hb4 _))
          go_roundw
          case rel => exact ⟨q + 1, b + 8, by have := H88.out; omega, by omega, by go_num, by rw [HSN.out]; exact ho3, hb4⟩
          case measure => simp only [intOf]; omega
        · have hq : q = M / 8 := by omega
          subst hq
          have hB2 := HB.out.trans (hb.mono HB.out.size)
          rw [HR2.out] at ho
          have HO := Lib.hid ho
          have hge : ¬ (b : Int) + 8 ≤ M := by omega
          clear ho hb8
          go_wp2
          go_ret
          exact ⟨_, rfl, ⟨_, HB.out.size, HO.out⟩, hB2⟩

end Go.Proofs.YtjnmjgpkicbbdaaGreatDoor
