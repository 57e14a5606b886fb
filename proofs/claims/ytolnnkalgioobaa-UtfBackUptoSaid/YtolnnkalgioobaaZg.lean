/- What decoded answers of so many bytes of a string. -/
import Derived.Test.YtolnnkalgioobaaZf
namespace Go.Proofs.Ytolnnkalgioobaa
open Go.RowKit
set_option maxRecDepth 100000
set_option linter.unusedVariables false
set_option linter.unusedSimpArgs false
set_option linter.unnecessarySimpa false

theorem decoded_any (s : ByteArray) (w : World) (h1 : 1 ≤ s.size) (h4 : s.size ≤ 4) :
    ∃ (P : Int) (B : Bool), (B = true → decS s 0 = some (P, s.size)) ∧ (B = false → ∀ p, decS s 0 ≠ some (p, s.size)) ∧
      Calls Try.prog 20 #[.string s] w fun e w' => e = .returned (.tuple #[.int .i64 P, .bool B]) ∧ Below w.heap.size w w' := by
  obtain ⟨c, hc⟩ : ∃ c, at1 s 0 = c := ⟨_, rfl⟩
  obtain ⟨x, hx⟩ : ∃ c, at1 s 1 = c := ⟨_, rfl⟩
  obtain ⟨y, hy⟩ : ∃ c, at1 s 2 = c := ⟨_, rfl⟩
  obtain ⟨z, hz⟩ : ∃ c, at1 s 3 = c := ⟨_, rfl⟩
  have hd : decS s 0 = dec4 c x y z := by unfold decS; simp only [Nat.zero_add]; rw [hc, hx, hy, hz]
  rw [hd]
  have hcr := at1_range s 0
  have hc0 := (at1_in s 0).2 (by omega)
  rw [hc] at hcr hc0
  rcases (by omega : s.size = 1 ∨ s.size = 2 ∨ s.size = 3 ∨ s.size = 4) with hs | hs | hs | hs
  · rw [hs]
    by_cases h : 128 ≤ c
    · exact ⟨0, false, (fun h => by cases h), (fun _ p k => by rcases dec4_bytes k with k | k | k | k <;> omega), dc1_room s c w hs hc h⟩
    · refine ⟨c, _, ?_, ?_, dc1_fin s c w _ hs hc (by omega) (by omega) rfl⟩
      · intro hB
        have hB := of_decide_eq_true hB
        exact dec4_of1 c x y z ((isPt_iff c).2 (by omega)) (by omega)
      · intro hB p k
        have hB := of_decide_eq_false hB
        omega
  · rw [hs]
    have hxr := at1_range s 1
    have hx0 := (at1_in s 1).2 (by omega)
    rw [hx] at hxr hx0
    by_cases h : c < 192 ∨ 224 ≤ c
    · exact ⟨0, false, (fun h => by cases h), (fun _ p k => by rcases dec4_bytes k with k | k | k | k <;> omega), dc2_room s c w hs hc h⟩
    by_cases hxx : x < 128 ∨ 192 ≤ x
    · exact ⟨0, false, (fun h => by cases h), (fun _ p k => by rcases dec4_bytes k with k | k | k | k <;> omega), dc2_c1 s c x w hs hc hx (by omega) (by omega) hxx⟩
    refine ⟨_, _, ?_, ?_, dc2_fin s c x w _ hs hc hx (by omega) (by omega) (by omega) (by omega) rfl⟩
    · intro hB
      have hB := of_decide_eq_true hB
      have := dec4_of2 ((c - 192) * 64 + x - 128) y z (by omega) (by omega)
      rwa [show 192 + ((c - 192) * 64 + x - 128) / 64 = c from by omega, show 128 + ((c - 192) * 64 + x - 128) % 64 = x from by omega] at this
    · intro hB p k
      have hB := of_decide_eq_false hB
      have hp := (isPt_iff p).1 (dec4_some k).1
      rcases dec4_bytes k with k | k | k | k <;> omega
  · rw [hs]
    have hxr := at1_range s 1
    have hx0 := (at1_in s 1).2 (by omega)
    rw [hx] at hxr hx0
    have hyr := at1_range s 2
    have hy0 := (at1_in s 2).2 (by omega)
    rw [hy] at hyr hy0
    by_cases h : c < 224 ∨ 240 ≤ c
    · exact ⟨0, false, (fun h => by cases h), (fun _ p k => by rcases dec4_bytes k with k | k | k | k <;> omega), dc3_room s c w hs hc h⟩
    by_cases hxx : x < 128 ∨ 192 ≤ x
    · exact ⟨0, false, (fun h => by cases h), (fun _ p k => by rcases dec4_bytes k with k | k | k | k <;> omega), dc3_c1 s c x w hs hc hx (by omega) (by omega) hxx⟩
    by_cases hyy : y < 128 ∨ 192 ≤ y
    · exact ⟨0, false, (fun h => by cases h), (fun _ p k => by rcases dec4_bytes k with k | k | k | k <;> omega), dc3_c2 s c x y w hs hc hx hy (by omega) (by omega) (by omega) (by omega) hyy⟩
    refine ⟨_, _, ?_, ?_, dc3_fin s c x y w _ hs hc hx hy (by omega) (by omega) (by omega) (by omega) (by omega) (by omega) rfl⟩
    · intro hB
      have hB := of_decide_eq_true hB
      have := dec4_of3 (((c - 224) * 64 + x - 128) * 64 + y - 128) z ((isPt_iff _).2 (by omega)) (by omega) (by omega)
      rwa [show 224 + (((c - 224) * 64 + x - 128) * 64 + y - 128) / 4096 = c from by omega, show 128 + (((c - 224) * 64 + x - 128) * 64 + y - 128) / 64 % 64 = x from by omega, show 128 + (((c - 224) * 64 + x - 128) * 64 + y - 128) % 64 = y from by omega] at this
    · intro hB p k
      have hB := of_decide_eq_false hB
      have hp := (isPt_iff p).1 (dec4_some k).1
      rcases dec4_bytes k with k | k | k | k <;> omega
  · rw [hs]
    have hxr := at1_range s 1
    have hx0 := (at1_in s 1).2 (by omega)
    rw [hx] at hxr hx0
    have hyr := at1_range s 2
    have hy0 := (at1_in s 2).2 (by omega)
    rw [hy] at hyr hy0
    have hzr := at1_range s 3
    have hz0 := (at1_in s 3).2 (by omega)
    rw [hz] at hzr hz0
    by_cases h : c < 240 ∨ 248 ≤ c
    · exact ⟨0, false, (fun h => by cases h), (fun _ p k => by have hp := (isPt_iff p).1 (dec4_some k).1; rcases dec4_bytes k with k | k | k | k <;> omega), dc4_room s c w hs hc h⟩
    by_cases hxx : x < 128 ∨ 192 ≤ x
    · exact ⟨0, false, (fun h => by cases h), (fun _ p k => by rcases dec4_bytes k with k | k | k | k <;> omega), dc4_c1 s c x w hs hc hx (by omega) (by omega) hxx⟩
    by_cases hyy : y < 128 ∨ 192 ≤ y
    · exact ⟨0, false, (fun h => by cases h), (fun _ p k => by rcases dec4_bytes k with k | k | k | k <;> omega), dc4_c2 s c x y w hs hc hx hy (by omega) (by omega) (by omega) (by omega) hyy⟩
    by_cases hzz : z < 128 ∨ 192 ≤ z
    · exact ⟨0, false, (fun h => by cases h), (fun _ p k => by rcases dec4_bytes k with k | k | k | k <;> omega), dc4_c3 s c x y z w hs hc hx hy hz (by omega) (by omega) (by omega) (by omega) (by omega) (by omega) hzz⟩
    refine ⟨_, _, ?_, ?_, dc4_fin s c x y z w _ hs hc hx hy hz (by omega) (by omega) (by omega) (by omega) (by omega) (by omega) (by omega) (by omega) rfl⟩
    · intro hB
      have hB := of_decide_eq_true hB
      have := dec4_of4 ((((c - 240) * 64 + x - 128) * 64 + y - 128) * 64 + z - 128) ((isPt_iff _).2 (by omega)) (by omega)
      rwa [show 240 + ((((c - 240) * 64 + x - 128) * 64 + y - 128) * 64 + z - 128) / 262144 = c from by omega, show 128 + ((((c - 240) * 64 + x - 128) * 64 + y - 128) * 64 + z - 128) / 4096 % 64 = x from by omega, show 128 + ((((c - 240) * 64 + x - 128) * 64 + y - 128) * 64 + z - 128) / 64 % 64 = y from by omega, show 128 + ((((c - 240) * 64 + x - 128) * 64 + y - 128) * 64 + z - 128) % 64 = z from by omega] at this
    · intro hB p k
      have hB := of_decide_eq_false hB
      have hp := (isPt_iff p).1 (dec4_some k).1
      rcases dec4_bytes k with k | k | k | k <;> omega
/-! ### A cut of a string -/
theorem cut_size (s : ByteArray) (a k : Nat) (h : a + k ≤ s.size) : (s.extract a (a + k)).size = k := by
  rw [ByteArray.size_extract]; omega
theorem at1_cut (s : ByteArray) (a k j : Nat) (h : a + k ≤ s.size) (hj : j < k) : at1 (s.extract a (a + k)) j = at1 s (a + j) := by
  unfold at1
  rw [dif_pos (by rw [cut_size s a k h]; exact hj), dif_pos (by omega)]
  rw [ByteArray.getElem_extract]
theorem decS_cut (s : ByteArray) (a k : Nat) (p : Int) (h : a + k ≤ s.size) : decS (s.extract a (a + k)) 0 = some (p, k) ↔ decS s a = some (p, k) := by
  constructor
  · intro hd
    exact decS_same hd fun j hj => by rw [Nat.zero_add]; exact at1_cut s a k j h hj
  · intro hd
    exact decS_same hd fun j hj => by rw [Nat.zero_add]; exact (at1_cut s a k j h hj).symm
theorem dec_yes (s : ByteArray) (a k : Nat) (p : Int) (w : World) (h : a + k ≤ s.size) (h1 : 1 ≤ k) (h4 : k ≤ 4) (hd : decS s a = some (p, k)) :
    Calls Try.prog 20 #[.string (s.extract a (a + k))] w fun e w' => e = .returned (.tuple #[.int .i64 p, .bool true]) ∧ Below w.heap.size w w' := by
  obtain ⟨P, B, k1, k2, hw⟩ := decoded_any (s.extract a (a + k)) w (by rw [cut_size s a k h]; exact h1) (by rw [cut_size s a k h]; exact h4)
  rw [cut_size s a k h] at k1 k2
  have hc := (decS_cut s a k p h).2 hd
  rcases B with _ | _
  · exact absurd hc (k2 rfl p)
  · have := k1 rfl
    rw [hc] at this
    obtain ⟨rfl, _⟩ := Prod.mk.inj (Option.some.inj this)
    exact hw
theorem dec_no (s : ByteArray) (a k : Nat) (w : World) (h : a + k ≤ s.size) (h1 : 1 ≤ k) (h4 : k ≤ 4) (hd : ∀ p, decS s a ≠ some (p, k)) :
    Calls Try.prog 20 #[.string (s.extract a (a + k))] w fun e w' => ∃ P, e = .returned (.tuple #[.int .i64 P, .bool false]) ∧ Below w.heap.size w w' := by
  obtain ⟨P, B, k1, k2, hw⟩ := decoded_any (s.extract a (a + k)) w (by rw [cut_size s a k h]; exact h1) (by rw [cut_size s a k h]; exact h4)
  rw [cut_size s a k h] at k1 k2
  rcases B with _ | _
  · exact hw.mono fun e w' ⟨he, hb⟩ => ⟨P, he, hb⟩
  · exact absurd ((decS_cut s a k P h).1 (k1 rfl)) (hd P)
end Go.Proofs.Ytolnnkalgioobaa
