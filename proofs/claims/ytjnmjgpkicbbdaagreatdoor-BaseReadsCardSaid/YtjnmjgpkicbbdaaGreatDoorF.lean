/- What base.FromBase64 answers, for any text. -/
import Derived.Test.YtjnmjgpkicbbdaaGreatDoorE
namespace Go.Proofs.YtjnmjgpkicbbdaaGreatDoor
open Go.RowKit
set_option maxRecDepth 100000
set_option linter.unusedVariables false
set_option linter.unusedSimpArgs false

def lv (c : Int) : Int := numFrom lettersS c 0
/-- The letters read one by one, x being n bits that wait. -/
def unb (x : Int) (n : Nat) : List Int → Option (List Int)
  | [] => if x = 0 then some [] else none
  | c :: r => if lv c < 0 then none else
      if 2 ≤ n then (unb ((x * 64 + lv c) % 2 ^ (n - 2)) (n - 2) r).map fun l => ((x * 64 + lv c) / 2 ^ (n - 2)) :: l
      else unb (x * 64 + lv c) (n + 6) r
def unb64L (xs : List Int) : Option (List Int) := if xs.length % 4 = 1 then none else unb 0 0 xs

theorem letters_ascii : ∀ (k : Nat) (h : k < lettersS.size), (lettersS[k]'h).toNat < 128 := by
  have : ∀ i : Fin lettersS.size, (lettersS[i.val]'i.isLt).toNat < 128 := by decide
  exact fun k h => this ⟨k, h⟩
theorem number_b64 (c : Int) (w : World) (h0 : 0 ≤ c) (h1 : c ≤ 255) :
    Calls Tryz.prog 14 #[.string ⟨#[65, 66, 67, 68, 69, 70, 71, 72, 73, 74, 75, 76, 77, 78, 79, 80, 81, 82, 83, 84, 85, 86, 87, 88, 89, 90, 97, 98, 99, 100, 101, 102, 103, 104, 105, 106, 107, 108, 109, 110, 111, 112, 113, 114, 115, 116, 117, 118, 119, 120, 121, 122, 48, 49, 50, 51, 52, 53, 54, 55, 56, 57, 45, 95]⟩, .int .u8 c] w fun e w' => e = .returned (.int .i64 (lv c)) ∧ Below w.heap.size w w' :=
  number_any lettersS c w letters_ascii (by decide) h0 h1
theorem lv_tab : ∀ n : Nat, n < 65 → ∀ c, numFrom lettersS c (64 - n) = -1 ∨ (0 ≤ numFrom lettersS c (64 - n) ∧ numFrom lettersS c (64 - n) ≤ 63) := by
  intro n
  induction n with
  | zero => intro _ c; left; rw [numFrom, dif_neg (by decide)]
  | succ n ih =>
    intro hn c
    have hlt : 64 - (n + 1) < lettersS.size := by have : lettersS.size = 64 := rfl; omega
    rw [numFrom, dif_pos hlt]
    split
    · right; omega
    · have := ih (by omega) c
      rwa [show 64 - (n + 1) + 1 = 64 - n from by omega]
theorem lv_range (c : Int) : -1 ≤ lv c ∧ lv c ≤ 63 := by
  have := lv_tab 64 (by omega) c
  unfold lv
  simp at this
  omega
theorem drop_one (s : ByteArray) (m : Nat) (h : m < s.size) : (ints s).drop m = ((s[m]'h).toNat : Int) :: (ints s).drop (m + 1) := by
  have hl := ints_length s
  have e0 := ints_at s m h
  rw [List.getD_eq_getElem?_getD, List.getElem?_eq_getElem (by omega)] at e0
  rw [List.drop_eq_getElem_cons (by omega)]
  simp only [Option.getD_some] at e0
  rw [e0]
theorem or6 (x k : Int) (h0 : 0 ≤ x) (h1 : x < 64) (k0 : 0 ≤ k) (k1 : k ≤ 63) : bits BinOp.or .u64 (x * 64) k = x * 64 + k :=
  bits_join .u64 24 (by decide) wraps_u64 6 _ _ (by omega) (by omega) (by omega) k0 (by omega) (by omega)
theorem and_low (j : Nat) (hj : j ≤ 24) (x : Int) (h0 : 0 ≤ x) (h1 : x < 16777216) : bits BinOp.and .u64 x (2 ^ j - 1) = x % 2 ^ j := bits_mask .u64 24 (by decide) wraps_u64 j hj x h0 h1

theorem fromB64_bad (s : ByteArray) (w : World) (hn : s.size ≤ 46912496117077) (h : s.size % 4 = 1) :
    Calls Tryz.prog 9 #[.string s] w (FromPost (unb64L (ints s)) w) := by
  have hb : ((s.size : Int) % 4 == 1) = true := by simp; omega
  have hN := Lib.hid (show unb64L (ints s) = none by unfold unb64L; rw [ints_length, if_pos h])
  go_enter Tryz.func9, Tryz.ntmps9
  go_wp2
  go_ret2
  exact FromPost.no hN.out (Below.refl _ _)

set_option maxHeartbeats 4000000 in
theorem fromB64_good (s : ByteArray) (w : World) (hn : s.size ≤ 46912496117077) (h : s.size % 4 ≠ 1) :
    Calls Tryz.prog 9 #[.string s] w (FromPost (unb64L (ints s)) w) := by
  have hb : ((s.size : Int) % 4 == 1) = false := by simp; omega
  have hU := Lib.hid (show unb64L (ints s) = unb 0 0 (ints s) by unfold unb64L; rw [ints_length, if_neg h])
  obtain ⟨w1, hmk, hO, hB⟩ := make_bytes w (s.size * 3 / 4) (by omega)
  rw [show ((s.size * 3 / 4 : Nat) : Int) = (s.size : Int) * 3 / 4 from by omega] at hmk
  have HO := Lib.hid hO
  clear hO h
  go_enter Tryz.func9, Tryz.ntmps9
  go_wp2
  go_loopw [4, 5, 6, 7, 8, 20] (fun v x n _ _ i W => ∃ (m : Nat) (ys : List Int) (X : Int) (N : Nat), m ≤ s.size ∧ i = .int .i64 m ∧ x = .int .u64 X ∧ n = .int .i64 N ∧ (N = 0 ∧ X = 0 ∨ N = 2 ∧ 0 ≤ X ∧ X < 4 ∨ N = 4 ∧ 0 ≤ X ∧ X < 16 ∨ N = 6 ∧ 0 ≤ X ∧ X < 64) ∧
      Own W w.heap.size 5 .u8 v ys ∧ ys.length ≤ m ∧ Hid (unb 0 0 (ints s) = (unb X N ((ints s).drop m)).map (ys ++ ·)) ∧ Below w.heap.size w W) (fun _ _ _ _ _ i _ => s.size - (intOf i).toNat)
  case atStart => exact ⟨0, [], 0, 0, by omega, rfl, rfl, rfl, by omega, HO.out, by simp, by show _ = _; simp, hB⟩
  case round =>
    obtain ⟨m, ys, X, N, hm, rfl, rfl, rfl, hst, ho, hyl, hu, hbl⟩ := hrel
    by_cases hlt : m < s.size
    · have hx := (s[m]'hlt).toNat_lt
      have hdrop : Hid ((ints s).drop m = ((s[m]'hlt).toNat : Int) :: (ints s).drop (m + 1)) := drop_one s m hlt
      obtain ⟨c, hc⟩ : ∃ c, c = ((s[m]'hlt).toNat : Int) := ⟨_, rfl⟩
      have hc0 : 0 ≤ c := by omega
      have hc1 : c ≤ 255 := by omega
      have hk := lv_range c
      rw [← hc] at hdrop
      obtain ⟨K, hK⟩ : ∃ K, K = lv c := ⟨_, rfl⟩
      rw [← hK] at hk
      have HK := Lib.hid hK
      obtain ⟨hk0, hk1⟩ := hk
      have hcc := hc.symm
      clear hc
      have hsz := hbl.size
      go_wp2_with fail
      refine (number_b64 c _ hc0 hc1).mono ?_
      rintro e w2 ⟨rfl, hb2⟩
      rw [← hK]
      have hbw : Below w.heap.size w w2 := hbl.trans (hb2.mono hsz)
      have hsz2 : w.heap.size ≤ w2.heap.size := hbw.size
      have how := ho.kept hb2
      clear hK hcc ho
      by_cases hneg : K < 0
      · have hnone : unb64L (ints s) = none := by
          rw [hU.out, hu.out, hdrop.out, unb, ← HK.out, if_pos hneg]; rfl
        have HN := Lib.hid hnone
        clear hnone how hst
        go_wp2
        go_ret2
        exact FromPost.no HN.out hbw
      · rcases hst with ⟨rfl, rfl⟩ | ⟨rfl, hX0, hX1⟩ | ⟨rfl, hX0, hX1⟩ | ⟨rfl, hX0, hX1⟩
        · have hor : bits BinOp.or .u64 0 K = K := by simpa using or6 0 K (by omega) (by omega) (by omega) (by omega)
          have hstep : Hid (unb 0 0 (ints s) = (unb K 6 ((ints s).drop (m + 1))).map (ys ++ ·)) := by
            show _ = _
            rw [hu.out, hdrop.out, unb, ← HK.out, if_neg hneg, if_neg (by omega)]
            simp
          go_wp2
          exact ⟨⟨m + 1, ys, K, 6, by omega, by go_num, rfl, rfl, by omega, how, by omega, hstep, hbw⟩, by simp [intOf]; omega⟩
        · have hor := or6 X K hX0 (by omega) (by omega) hk1
          have hmask : bits BinOp.and .u64 (X * 64 + K) 0 = (X * 64 + K) % 1 := and_low 0 (by omega) (X * 64 + K) (by omega) (by omega)
          have hstep : Hid (unb 0 0 (ints s) = (unb ((X * 64 + K) % 1) 0 ((ints s).drop (m + 1))).map ((ys ++ [(X * 64 + K) / 1]) ++ ·)) := by
            show _ = _
            rw [hu.out, hdrop.out, unb, ← HK.out, if_neg hneg, if_pos (by omega), Option.map_map]
            congr 1
            funext l
            simp
          go_wp2_with (at_builtin; refine app1 w.heap.size rfl (.tmp 40) (.tmp 45) 39 5 .u8 1 rfl Tryz.underlying39 info_byte _ ys _ rfl rfl how hbw hsz2 (by omega) (by omega) ?_; intro v1 w3 ho1 hb1 _)
          exact ⟨⟨m + 1, ys ++ [X * 64 + K], 0, 0, by omega, by go_num, rfl, rfl, by omega, ho1, by simp; omega, Lib.hid (by have := hstep.out; simpa using this), hb1⟩, by simp [intOf]; omega⟩
        · have hor := or6 X K hX0 (by omega) (by omega) hk1
          have hmask : bits BinOp.and .u64 (X * 64 + K) 3 = (X * 64 + K) % 4 := and_low 2 (by omega) (X * 64 + K) (by omega) (by omega)
          have hstep : Hid (unb 0 0 (ints s) = (unb ((X * 64 + K) % 4) 2 ((ints s).drop (m + 1))).map ((ys ++ [(X * 64 + K) / 4]) ++ ·)) := by
            show _ = _
            rw [hu.out, hdrop.out, unb, ← HK.out, if_neg hneg, if_pos (by omega), Option.map_map]
            congr 1
            funext l
            simp
          go_wp2_with (at_builtin; refine app1 w.heap.size rfl (.tmp 40) (.tmp 45) 39 5 .u8 1 rfl Tryz.underlying39 info_byte _ ys _ rfl rfl how hbw hsz2 (by omega) (by omega) ?_; intro v1 w3 ho1 hb1 _)
          exact ⟨⟨m + 1, ys ++ [(X * 64 + K) / 4], (X * 64 + K) % 4, 2, by omega, by go_num, rfl, rfl, by omega, ho1, by simp; omega, hstep, hb1⟩, by simp [intOf]; omega⟩
        · have hor := or6 X K hX0 (by omega) (by omega) hk1
          have hmask : bits BinOp.and .u64 (X * 64 + K) 15 = (X * 64 + K) % 16 := and_low 4 (by omega) (X * 64 + K) (by omega) (by omega)
          have hstep : Hid (unb 0 0 (ints s) = (unb ((X * 64 + K) % 16) 4 ((ints s).drop (m + 1))).map ((ys ++ [(X * 64 + K) / 16]) ++ ·)) := by
            show _ = _
            rw [hu.out, hdrop.out, unb, ← HK.out, if_neg hneg, if_pos (by omega), Option.map_map]
            congr 1
            funext l
            simp
          go_wp2_with (at_builtin; refine app1 w.heap.size rfl (.tmp 40) (.tmp 45) 39 5 .u8 1 rfl Tryz.underlying39 info_byte _ ys _ rfl rfl how hbw hsz2 (by omega) (by omega) ?_; intro v1 w3 ho1 hb1 _)
          exact ⟨⟨m + 1, ys ++ [(X * 64 + K) / 16], (X * 64 + K) % 16, 4, by omega, by go_num, rfl, rfl, by omega, ho1, by simp; omega, hstep, hb1⟩, by simp [intOf]; omega⟩
    · have hme : m = s.size := by omega
      have hend : unb64L (ints s) = if X = 0 then some ys else none := by
        rw [hU.out, hu.out, List.drop_of_length_le (by rw [ints_length]; omega), unb]
        split <;> simp
      have HE := Lib.hid hend
      obtain ⟨A, c, rfl, hr, hc, hA⟩ := ho.slice
      have HOW := Lib.hid ho
      clear hend hme hst ho
      by_cases hX : X = 0
      · subst hX
        have HY := Lib.hid (show unb64L (ints s) = some ys by rw [HE.out, if_pos rfl])
        go_wp2
        go_ret2
        exact FromPost.yes HY.out hbl hr hc hA HOW.out
      · have hX2 : (X != 0) = true := by simp [hX]
        have HY := Lib.hid (show unb64L (ints s) = none by rw [HE.out, if_neg hX])
        clear hX
        go_wp2
        go_ret2
        exact FromPost.no HY.out hbl

theorem fromB64_any (s : ByteArray) (w : World) (hn : s.size ≤ 46912496117077) :
    Calls Tryz.prog 9 #[.string s] w (FromPost (unb64L (ints s)) w) := by
  by_cases h : s.size % 4 = 1
  · exact fromB64_bad s w hn h
  · exact fromB64_good s w hn h
end Go.Proofs.YtjnmjgpkicbbdaaGreatDoor
