/- The walk of BaseJoins. -/
import Derived.Test.YtjnmjgpkicbbdaaK
import Derived.Test.YtjnmjgpkicbbdaaM
namespace Go.Proofs.Ytjnmjgpkicbbdaa
open Go.RowKit
set_option maxRecDepth 100000
set_option linter.unusedVariables false
set_option linter.unusedSimpArgs false
set_option linter.unnecessarySimpa false

theorem twin_own {w : World} {g : Nat} {xs : List Int} (B : Nat) (hB : B ≤ g) (hl : xs.length + 1 ≤ maxLen) (h : Blk w g (xs ++ [28])) : Own w B 5 .u8 (.slice (some ⟨g, 0, none⟩) xs.length (xs.length + 1)) xs := by
  refine ⟨by simp [numsK], .inr ⟨g, xs.length + 1, _, rfl, hB, h, by omega, hl, by simp [numsK], ?_⟩⟩
  simp [numsK, List.take_append]

theorem joins_big (A B : Option Addr) (n m c d : Nat) (w : World) (hn : n ≤ 140737488351232) (hm : m ≤ 140737488351232) (h : 16777216 < n + m) :
    Calls Try.prog 6 #[.slice A n c, .slice B m d] w fun e w' => e = .returned (.bool true) ∧ Below w.heap.size w w' := by
  have hb : decide ((n : Int) + (m : Int) > 16777216) = true := by simp; omega
  go_enter Try.func6, Try.ntmps6
  go_wp2
  go_ret
  exact ⟨rfl, Below.refl _ _⟩

theorem hex_is (A : Option Addr) (c n : Nat) (xs : List Int) (s : ByteArray) (hs : s = strOfNums (hexL xs)) (hx : Bytes xs) (hl : xs.length = n) (hn : n ≤ 16777216) (w : World) (hr : RK w .u8 A xs) :
    Calls Try.prog 13 #[.slice A n c] w fun e w' => e = .returned (.string s) ∧ Below w.heap.size w w' := by
  subst hs
  subst hl
  exact hex_any A c xs w hx (by omega) hr
theorem b64_is (A : Option Addr) (c n : Nat) (xs : List Int) (s : ByteArray) (hs : s = strOfNums (b64L xs)) (hx : Bytes xs) (hl : xs.length = n) (hn : n ≤ 16777216) (hc : n ≤ c) (w : World) (hr : RK w .u8 A xs) :
    Calls Try.prog 14 #[.slice A n c] w fun e w' => e = .returned (.string s) ∧ Below w.heap.size w w' := by
  subst hs
  subst hl
  exact b64_row A c xs w hx (by omega) hr hc
theorem RK.take {W : World} {A : Option Addr} {xs : List Int} (h : RK W .u8 A xs) (n : Nat) : RK W .u8 A (xs.take n) := by
  rcases h with rfl | ⟨b, off, e, h⟩
  · exact .inl (by simp)
  · refine .inr ⟨b, off, e, fun j hj => ?_⟩
    rw [List.length_take] at hj
    rw [h j (by omega)]
    simp only [List.getD_eq_getElem?_getD, List.getElem?_take]
    rw [if_pos (by omega)]
theorem RK.drop {W : World} {A : Option Addr} {xs : List Int} (h : RK W .u8 A xs) (n c : Nat) (hc : xs.length ≤ c) : RK W .u8 (if c = n then A else A.map (·.add n)) (xs.drop n) := by
  by_cases hn : xs.length ≤ n
  · left
    exact List.drop_eq_nil_of_le hn
  · rcases h with rfl | ⟨b, off, rfl, h⟩
    · simp at hn
    · rw [if_neg (by omega)]
      refine .inr ⟨b, off + n, by simp [Addr.add_mid], fun j hj => ?_⟩
      rw [List.length_drop] at hj
      rw [Nat.add_assoc, h (n + j) (by omega)]
      simp [List.getD_eq_getElem?_getD, List.getElem?_drop]
theorem RK.dropS {W : World} {A : Option Addr} {xs : List Int} (h : RK W .u8 A xs) (n c : Nat) (hc : xs.length ≤ c) (hne : c ≠ n) : RK W .u8 (A.map (·.add n)) (xs.drop n) := by
  have := h.drop n c hc
  rwa [if_neg hne] at this
theorem Bytes.take {xs : List Int} (h : Bytes xs) (n : Nat) : Bytes (xs.take n) := fun x hx => h x (List.mem_of_mem_take hx)
theorem Bytes.drop {xs : List Int} (h : Bytes xs) (n : Nat) : Bytes (xs.drop n) := fun x hx => h x (List.mem_of_mem_drop hx)

theorem joins_some (A : Option Addr) (b off c d n m : Nat) (xs ys : List Int) (w : World) (hl1 : xs.length = n) (hl2 : ys.length = m) (hx : Bytes xs) (hy : Bytes ys) (hr : RK w .u8 A xs) (hcap : n ≤ c) (hys : 0 < m)
    (hc : ∀ j, j < ys.length → w.cell? ⟨b, off + j, none⟩ = some (.int .u8 (ys.getD j 0))) (hn : n + m ≤ 16777216) :
    Calls Try.prog 6 #[.slice A n c, .slice (some ⟨b, off, none⟩) m d] w fun e w' => e = .returned (.bool true) ∧ Below w.heap.size w w' := by
  obtain ⟨i0, hi, hz0, hz1, hz2⟩ := info_parts info_byte
  have hb : decide ((n : Int) + (m : Int) > 16777216) = false := by simp; omega
  have hR := Lib.hid hr
  have hX := Lib.hid hx
  have hY := Lib.hid hy
  have hC := Lib.hid hc
  have hRY : Hid (RK w .u8 (some ⟨b, off, none⟩) ys) := Lib.hid (.inr ⟨b, off, rfl, hc⟩)
  obtain ⟨S1, e1⟩ : ∃ S, S = strOfNums (hexL xs) := ⟨_, rfl⟩
  obtain ⟨S2, e2⟩ : ∃ S, S = strOfNums (hexL ys) := ⟨_, rfl⟩
  have e12 : S1 ++ S2 = strOfNums (hexL (xs ++ ys)) := by rw [e1, e2, strOfNums_app, hexL_app]
  have s1 : S1.size = 2 * n := by rw [e1, strOfNums_size, hexL_len, hl1]
  have s2 : S2.size = 2 * m := by rw [e2, strOfNums_size, hexL_len, hl2]
  have hss : S1.size + S2.size ≤ 9223372036854775807 := by omega
  have hL1 := Lib.hid hl1
  have hL2 := Lib.hid hl2
  have E1 := Lib.hid e1
  have E2 := Lib.hid e2
  have E12 := Lib.hid e12
  clear hr hc e1 e2 e12 hl1 hl2
  have htw := fun W h1 => twin_any A c xs W (by rw [hL1.out]; omega) h1
  rw [hL1.out] at htw
  go_enter Try.func6, Try.ntmps6
  go_upto_region 3 with fail
  go_upto_region 4 with (first
    | (go_at_call 8; refine (htw _ hR.out).mono ?_; rintro e w1 ⟨g, rfl, hg0, hgb, hb1⟩; have hcc : ∀ j u, (numsK .u8 ys)[j]? = some u → w1.cell? ((⟨b, off, none⟩ : Addr).add j) = some u := fun j u hu => by
          have hj : j < ys.length := by have := (List.getElem?_eq_some_iff.1 hu).1; simpa [numsK] using this
          rw [Addr.add_mid, hb1.cell (World.block_lt_of_cell? w _ (hC.out j hj)), hC.out j hj, ← hu]
          simp [numsK, List.getElem?_eq_getElem hj, List.getD_eq_getElem?_getD])
    | (at_builtin; refine wpList_append_own _ rfl (.tmp 14) (.tmp 15) 22 rfl w.heap.size 5 i0 (.int .u8 0) 1 1 Try.underlying22 hi hz0 hz1 hz2 rfl (by omega) _ _ _ (by rw [← hL1.out]; rfl) (twin_own w.heap.size hg0 (by simp [maxLen, hL1.out]; omega) hgb) ⟨b, off, none⟩ m d (numsK .u8 ys) rfl (by simp [numsK, hL2.out]) hcc (fun v hv => by obtain ⟨x, _, rfl⟩ := List.mem_map.1 hv; rfl) (by simp [maxLen, hL1.out]; omega) (by rw [hL1.out]; omega) hb1.size ?_; intro v1 w2 ho1 hgr _))
  have hO : Own w2 w.heap.size 5 .u8 v1 (xs ++ ys) := by unfold Own; rw [numsK_append, List.length_append, hL2.out]; exact ho1
  have hb2 : Below w.heap.size w w2 := hb1.grown hgr hb1.size (fun j hj => Own.lt (twin_own w.heap.size hg0 (by simp [maxLen, hL1.out]; omega) hgb) j hj)
  obtain ⟨D, cD, rfl, hRD, hcD, _⟩ := hO.slice
  rw [List.length_append, hL1.out, hL2.out] at hcD
  rw [List.length_append, hL1.out, hL2.out]
  have k1 := fun W (h : Below w.heap.size w W) => hex_is A c n xs S1 E1.out hX.out hL1.out (by omega) W (hR.out.kept h)
  have k2 := fun W (h : Below w.heap.size w W) => hex_is (some ⟨b, off, none⟩) d m ys S2 E2.out hY.out hL2.out (by omega) W (hRY.out.kept h)
  have k3 := fun W (h : Below w2.heap.size w2 W) => hex_is D cD (n + m) (xs ++ ys) (S1 ++ S2) E12.out (hX.out.app hY.out) (by rw [List.length_append, hL1.out, hL2.out]) (by omega) W (hRD.below h)
  clear htw ho1 hgr hgb hg0
  go_upto_region 6 with (first
    | (go_at_call 13; with_reducible refine (k3 _ (Below.refl _ _)).mono ?_; rintro e w3 ⟨rfl, hb3⟩)
    | (go_at_call 13; with_reducible refine (k1 _ (below_on hb2 hb3)).mono ?_; rintro e w4 ⟨rfl, hb4⟩)
    | (go_at_call 13; with_reducible refine (k2 _ (below_on (below_on hb2 hb3) hb4)).mono ?_; rintro e w5 ⟨rfl, hb5⟩))
  go_upto_region 7 with fail
  have hb25 : Below w2.heap.size w2 w5 := below_on (below_on hb3 hb4) hb5
  have hb05 : Below w.heap.size w w5 := below_on hb2 hb25
  rw [show ((n : Int) / 3 * 3) = ((n / 3 * 3 : Nat) : Int) from by omega]
  obtain ⟨q, hq⟩ : ∃ q, q = n / 3 * 3 := ⟨_, rfl⟩
  rw [← hq]
  have hq1 : q ≤ n := by omega
  have hq3 : q % 3 = 0 := by omega
  clear hq
  have hq0 : (0 : Int) ≤ q := by omega
  have hqc : (q : Int) ≤ (c : Int) := by omega
  have hqn : (q : Int) ≤ ((n + m : Nat) : Int) := by omega
  have hqn2 : (q : Int) ≤ (n : Int) + (m : Int) := by omega
  have htl : (xs.take q).length = q := by rw [List.length_take, hL1.out]; omega
  have hdl : ((xs ++ ys).drop q).length = n + m - q := by rw [List.length_drop, List.length_append, hL1.out, hL2.out]
  have hal : (xs ++ ys).length = n + m := by rw [List.length_append, hL1.out, hL2.out]
  have hBA : Bytes (xs ++ ys) := hX.out.app hY.out
  obtain ⟨T1, t1⟩ : ∃ S, S = strOfNums (b64L (xs.take q)) := ⟨_, rfl⟩
  obtain ⟨T2, t2⟩ : ∃ S, S = strOfNums (b64L ((xs ++ ys).drop q)) := ⟨_, rfl⟩
  have t12 : T1 ++ T2 = strOfNums (b64L (xs ++ ys)) := by
    rw [t1, t2, strOfNums_app, ← b64L_app _ _ (by rw [htl]; exact hq3), ← List.take_append_of_le_length (l₂ := ys) (by rw [hL1.out]; exact hq1), List.take_append_drop]
  have z1 : T1.size = (8 * q + 5) / 6 := by rw [t1, strOfNums_size, b64L_len, htl]
  have z2 : T2.size = (8 * (n + m - q) + 5) / 6 := by rw [t2, strOfNums_size, b64L_len, hdl]
  have hzz : T1.size + T2.size ≤ 9223372036854775807 := by omega
  have hzi : (T1.size : Int) + (T2.size : Int) ≤ 9223372036854775807 := by omega
  have hzr := fun W : World => run_string_add_sum (P := Try.prog) W T1 T2 hzz
  have j1 := fun W (h : Below w5.heap.size w5 W) => b64_is A c q (xs.take q) T1 t1 (hX.out.take q) htl (by omega) (by omega) W ((hR.out.kept (below_on hb05 h)).take q)
  have j2 := fun W (h : Below w5.heap.size w5 W) => b64_is (D.map (·.add q)) (cD - q) (n + m - q) ((xs ++ ys).drop q) T2 t2 (hBA.drop q) hdl (by omega) (by omega) W ((hRD.below (below_on hb25 h)).dropS q cD (by omega) (by omega))
  have j3 := fun W (h : Below w5.heap.size w5 W) => b64_is D cD (n + m) (xs ++ ys) (T1 ++ T2) t12 hBA hal (by omega) (by omega) W (hRD.below (below_on hb25 h))
  clear t1 t2 t12 k1 k2 k3 htl hdl hal hO hRD hb25 hb2 hb3 hb4 hb5 z1 z2 s1 s2
  go_cut [4] (fun r W => r = .bool true ∧ Below w5.heap.size w5 W)
  case first =>
    go_region_held3 (fun W => Below w5.heap.size w5 W) (first | exact (Below.refl _ _).drew | exact below_on (by assumption) hb6 | assumption) (first
      | (go_at_call 14; with_reducible refine (j3 _ (by assumption)).mono ?_; rintro e w6 ⟨rfl, hb6⟩)
      | (go_at_call 14; with_reducible refine (j1 _ (by assumption)).mono ?_; rintro e w6 ⟨rfl, hb6⟩)
      | (go_at_call 14; with_reducible refine (j2 _ (by assumption)).mono ?_; rintro e w6 ⟨rfl, hb6⟩)
      | (go_at_call 11; refine (lives_any _).mono ?_; rintro e w6 ⟨rfl, hb6⟩))
    all_goals (go_wp2_with fail; go_meet; exact ⟨rfl, by assumption⟩)
  case rest =>
    obtain ⟨rfl, hcb⟩ := hcut
    go_wp2
    go_ret
    exact ⟨rfl, below_on hb05 hcb⟩
theorem joins_none (A B : Option Addr) (c d n m : Nat) (xs ys : List Int) (w : World) (hl1 : xs.length = n) (hl2 : ys.length = m) (hx : Bytes xs) (hy : Bytes ys) (hr : RK w .u8 A xs) (hcap : n ≤ c) (hys : m = 0) (hBd : B = none → d = 0)
    (hn : n + m ≤ 16777216) :
    Calls Try.prog 6 #[.slice A n c, .slice B m d] w fun e w' => e = .returned (.bool true) ∧ Below w.heap.size w w' := by
  obtain ⟨i0, hi, hz0, hz1, hz2⟩ := info_parts info_byte
  have hb : decide ((n : Int) + (m : Int) > 16777216) = false := by simp; omega
  have hR := Lib.hid hr
  have hX := Lib.hid hx
  have hY := Lib.hid hy
  have hnil : ys = [] := List.length_eq_zero_iff.1 (by omega)
  have hNil := Lib.hid hnil
  have hBD := Lib.hid hBd
  have hRY : Hid (RK w .u8 B ys) := Lib.hid (.inl hnil)
  obtain ⟨S1, e1⟩ : ∃ S, S = strOfNums (hexL xs) := ⟨_, rfl⟩
  obtain ⟨S2, e2⟩ : ∃ S, S = strOfNums (hexL ys) := ⟨_, rfl⟩
  have e12 : S1 ++ S2 = strOfNums (hexL (xs ++ ys)) := by rw [e1, e2, strOfNums_app, hexL_app]
  have s1 : S1.size = 2 * n := by rw [e1, strOfNums_size, hexL_len, hl1]
  have s2 : S2.size = 2 * m := by rw [e2, strOfNums_size, hexL_len, hl2]
  have hss : S1.size + S2.size ≤ 9223372036854775807 := by omega
  have hL1 := Lib.hid hl1
  have hL2 := Lib.hid hl2
  have E1 := Lib.hid e1
  have E2 := Lib.hid e2
  have E12 := Lib.hid e12
  have hM0 := Lib.hid hys
  clear hr hnil hBd hys e1 e2 e12 hl1 hl2
  have htw := fun W h1 => twin_any A c xs W (by rw [hL1.out]; omega) h1
  rw [hL1.out] at htw
  go_enter Try.func6, Try.ntmps6
  go_upto_region 3 with fail
  go_upto_region 4 with (first
    | (go_at_call 8; refine (htw _ hR.out).mono ?_; rintro e w1 ⟨g, rfl, hg0, hgb, hb1⟩)
    | (at_builtin; refine wpList_append_fits_any _ rfl (.tmp 14) (.tmp 15) 22 rfl w.heap.size 5 i0 1 Try.underlying22 hi hz1 g xs.length (xs.length + 1) (numsK .u8 xs) rfl (twin_own w.heap.size hg0 (by simp [maxLen, hL1.out]; omega) hgb) B m d (numsK .u8 ys) rfl (by simp [numsK, hL2.out]) (fun e => ⟨hM0.out, hBD.out e⟩) (fun _ _ j u hu => by rw [hNil.out] at hu; simp [numsK] at hu) (fun v hv => by obtain ⟨x, _, rfl⟩ := List.mem_map.1 hv; rfl) (by have := hM0.out; omega) ?_; intro w2 ho1 hgr; generalize hv1 : Value.slice (some ⟨g, 0, none⟩) (xs.length + m) (xs.length + 1) = v1 at ho1 ⊢))
  have hO : Own w2 w.heap.size 5 .u8 v1 (xs ++ ys) := by unfold Own; rw [numsK_append, List.length_append, hL2.out]; exact ho1
  have hb2 : Below w.heap.size w w2 := hb1.grown hgr hb1.size (fun j hj => Own.lt (twin_own w.heap.size hg0 (by simp [maxLen, hL1.out]; omega) hgb) j hj)
  obtain ⟨D, cD, rfl, hRD, hcD, _⟩ := hO.slice
  have hcE : n + 1 ≤ cD := by injection hv1 with _ _ h3; rw [← h3, hL1.out]; omega
  clear hv1
  rw [List.length_append, hL1.out, hL2.out] at hcD
  rw [List.length_append, hL1.out, hL2.out]
  have k1 := fun W (h : Below w.heap.size w W) => hex_is A c n xs S1 E1.out hX.out hL1.out (by omega) W (hR.out.kept h)
  have k2 := fun W (h : Below w.heap.size w W) => hex_is B d m ys S2 E2.out hY.out hL2.out (by omega) W (hRY.out.kept h)
  have k3 := fun W (h : Below w2.heap.size w2 W) => hex_is D cD (n + m) (xs ++ ys) (S1 ++ S2) E12.out (hX.out.app hY.out) (by rw [List.length_append, hL1.out, hL2.out]) (by omega) W (hRD.below h)
  clear htw ho1 hgr hgb hg0
  go_upto_region 6 with (first
    | (go_at_call 13; with_reducible refine (k3 _ (Below.refl _ _)).mono ?_; rintro e w3 ⟨rfl, hb3⟩)
    | (go_at_call 13; with_reducible refine (k1 _ (below_on hb2 hb3)).mono ?_; rintro e w4 ⟨rfl, hb4⟩)
    | (go_at_call 13; with_reducible refine (k2 _ (below_on (below_on hb2 hb3) hb4)).mono ?_; rintro e w5 ⟨rfl, hb5⟩))
  go_upto_region 7 with fail
  have hb25 : Below w2.heap.size w2 w5 := below_on (below_on hb3 hb4) hb5
  have hb05 : Below w.heap.size w w5 := below_on hb2 hb25
  rw [show ((n : Int) / 3 * 3) = ((n / 3 * 3 : Nat) : Int) from by omega]
  obtain ⟨q, hq⟩ : ∃ q, q = n / 3 * 3 := ⟨_, rfl⟩
  rw [← hq]
  have hq1 : q ≤ n := by omega
  have hq3 : q % 3 = 0 := by omega
  clear hq
  have hq0 : (0 : Int) ≤ q := by omega
  have hqc : (q : Int) ≤ (c : Int) := by omega
  have hqn : (q : Int) ≤ ((n + m : Nat) : Int) := by omega
  have hqn2 : (q : Int) ≤ (n : Int) + (m : Int) := by omega
  have htl : (xs.take q).length = q := by rw [List.length_take, hL1.out]; omega
  have hdl : ((xs ++ ys).drop q).length = n + m - q := by rw [List.length_drop, List.length_append, hL1.out, hL2.out]
  have hal : (xs ++ ys).length = n + m := by rw [List.length_append, hL1.out, hL2.out]
  have hBA : Bytes (xs ++ ys) := hX.out.app hY.out
  obtain ⟨T1, t1⟩ : ∃ S, S = strOfNums (b64L (xs.take q)) := ⟨_, rfl⟩
  obtain ⟨T2, t2⟩ : ∃ S, S = strOfNums (b64L ((xs ++ ys).drop q)) := ⟨_, rfl⟩
  have t12 : T1 ++ T2 = strOfNums (b64L (xs ++ ys)) := by
    rw [t1, t2, strOfNums_app, ← b64L_app _ _ (by rw [htl]; exact hq3), ← List.take_append_of_le_length (l₂ := ys) (by rw [hL1.out]; exact hq1), List.take_append_drop]
  have z1 : T1.size = (8 * q + 5) / 6 := by rw [t1, strOfNums_size, b64L_len, htl]
  have z2 : T2.size = (8 * (n + m - q) + 5) / 6 := by rw [t2, strOfNums_size, b64L_len, hdl]
  have hzz : T1.size + T2.size ≤ 9223372036854775807 := by omega
  have hzi : (T1.size : Int) + (T2.size : Int) ≤ 9223372036854775807 := by omega
  have hzr := fun W : World => run_string_add_sum (P := Try.prog) W T1 T2 hzz
  have j1 := fun W (h : Below w5.heap.size w5 W) => b64_is A c q (xs.take q) T1 t1 (hX.out.take q) htl (by omega) (by omega) W ((hR.out.kept (below_on hb05 h)).take q)
  have j2 := fun W (h : Below w5.heap.size w5 W) => b64_is (D.map (·.add q)) (cD - q) (n + m - q) ((xs ++ ys).drop q) T2 t2 (hBA.drop q) hdl (by omega) (by omega) W ((hRD.below (below_on hb25 h)).dropS q cD (by omega) (by omega))
  have j3 := fun W (h : Below w5.heap.size w5 W) => b64_is D cD (n + m) (xs ++ ys) (T1 ++ T2) t12 hBA hal (by omega) (by omega) W (hRD.below (below_on hb25 h))
  clear t1 t2 t12 k1 k2 k3 htl hdl hal hO hRD hb25 hb2 hb3 hb4 hb5 z1 z2 s1 s2
  go_cut [4] (fun r W => r = .bool true ∧ Below w5.heap.size w5 W)
  case first =>
    go_region_held3 (fun W => Below w5.heap.size w5 W) (first | exact (Below.refl _ _).drew | exact below_on (by assumption) hb6 | assumption) (first
      | (go_at_call 14; with_reducible refine (j3 _ (by assumption)).mono ?_; rintro e w6 ⟨rfl, hb6⟩)
      | (go_at_call 14; with_reducible refine (j1 _ (by assumption)).mono ?_; rintro e w6 ⟨rfl, hb6⟩)
      | (go_at_call 14; with_reducible refine (j2 _ (by assumption)).mono ?_; rintro e w6 ⟨rfl, hb6⟩)
      | (go_at_call 11; refine (lives_any _).mono ?_; rintro e w6 ⟨rfl, hb6⟩))
    all_goals (go_wp2_with fail; go_meet; exact ⟨rfl, by assumption⟩)
  case rest =>
    obtain ⟨rfl, hcb⟩ := hcut
    go_wp2
    go_ret
    exact ⟨rfl, below_on hb05 hcb⟩
theorem IsRow.nilcap {w : World} {a : Option Addr} {len cap : Nat} {zs : List Int} (h : IsRow .u8 w a len cap zs) (e : a = none) : cap = 0 := by
  rcases h with ⟨_, _, h, _⟩ | ⟨x, h, _⟩
  · exact h
  · rw [e] at h; cases h
theorem joinsW (a0 : Option Addr) (len0 cap0 : Nat) (z0 : List Int) (a1 : Option Addr) (len1 cap1 : Nat) (z1 : List Int) (w : World) (w0 : IsRow .u8 w a0 len0 cap0 z0) (hr0 : cap0 * 1 ≤ 140737488351232)
    (w1 : IsRow .u8 w a1 len1 cap1 z1) (hr1 : cap1 * 1 ≤ 140737488351232) :
    Calls Try.prog 6 #[.slice a0 len0 cap0, .slice a1 len1 cap1] w fun e w' => e = .returned (.bool true) ∧ Below w.heap.size w w' := by
  have hnil := w1.nilcap
  obtain ⟨xs, hl0, hx, hrx, hc0⟩ := w0.rk
  obtain ⟨ys, hl1, hy, hry, hc1⟩ := w1.rk
  by_cases hbig : 16777216 < len0 + len1
  · exact joins_big a0 a1 len0 len1 cap0 cap1 w (by omega) (by omega) hbig
  by_cases h0 : len1 = 0
  · exact joins_none a0 a1 cap0 cap1 len0 len1 xs ys w hl0 hl1 hx hy hrx hc0 h0 hnil (by omega)
  · rcases hry with h | ⟨b, off, rfl, hc⟩
    · rw [h] at hl1
      exact absurd hl1.symm h0
    · exact joins_some a0 b off cap0 cap1 len0 len1 xs ys w hl0 hl1 hx hy hrx hc0 (by omega) hc (by omega)
end Go.Proofs.Ytjnmjgpkicbbdaa
