/- The walk of BaseBack. -/
import Derived.Test.YtjnmjgpkicbbdaaQ
import Derived.Test.YtjnmjgpkicbbdaaO
namespace Go.Proofs.Ytjnmjgpkicbbdaa
open Go.RowKit
set_option maxRecDepth 100000
set_option linter.unusedVariables false
set_option linter.unusedSimpArgs false
set_option linter.unnecessarySimpa false

theorem back_big (A B : Option Addr) (n m c d : Nat) (w : World) (hn : n ≤ 140737488351232) (hm : m ≤ 140737488351232) (h : 16777216 < n + m) :
    Calls Try.prog 5 #[.slice A n c, .slice B m d] w fun e w' => e = .returned (.bool true) ∧ Below w.heap.size w w' := by
  have hb : decide ((n : Int) + (m : Int) > 16777216) = true := by simp; omega
  go_enter Try.func5, Try.ntmps5
  go_wp2
  go_ret
  exact ⟨rfl, Below.refl _ _⟩
theorem ints_app (a b : ByteArray) : ints (a ++ b) = ints a ++ ints b := by
  simp [ints]
theorem back_some (A B : Option Addr) (c d n m : Nat) (xs ys : List Int) (w : World) (hl1 : xs.length = n) (hl2 : ys.length = m) (hx : Bytes xs) (hy : Bytes ys) (hr : RK w .u8 A xs) (hry : RK w .u8 B ys) (hcap : n ≤ c) (hcap2 : m ≤ d)
    (hn : n + m ≤ 16777216) :
    Calls Try.prog 5 #[.slice A n c, .slice B m d] w fun e w' => e = .returned (.bool true) ∧ Below w.heap.size w w' := by
  have hb : decide ((n : Int) + (m : Int) > 16777216) = false := by simp; omega
  obtain ⟨S, eS⟩ : ∃ S, S = strOfNums (hexL xs) := ⟨_, rfl⟩
  obtain ⟨S2, eS2⟩ : ∃ S, S = strOfNums (hexL ys) := ⟨_, rfl⟩
  obtain ⟨T, eT⟩ : ∃ S, S = strOfNums (b64L xs) := ⟨_, rfl⟩
  obtain ⟨T2, eT2⟩ : ∃ S, S = strOfNums (b64L ys) := ⟨_, rfl⟩
  obtain ⟨X, eX⟩ : ∃ S, S = strOfNums xs := ⟨_, rfl⟩
  obtain ⟨Y, eY⟩ : ∃ S, S = strOfNums ys := ⟨_, rfl⟩
  have iS : ints S = hexL xs := by rw [eS]; exact ints_strOfNums (hexL_bytes _ hx)
  have iT : ints T = b64L xs := by rw [eT]; exact ints_strOfNums (b64L_bytes _ hx)
  have zS : S.size = 2 * n := by rw [eS, strOfNums_size, hexL_len, hl1]
  have zT : T.size = (8 * n + 5) / 6 := by rw [eT, strOfNums_size, b64L_len, hl1]
  have zSi : (S.size : Int) = 2 * (n : Int) := by omega
  have zTi : (T.size : Int) = (8 * (n : Int) + 5) / 6 := by omega
  obtain ⟨O, hO⟩ : ∃ O, O = ord X Y := ⟨_, rfl⟩
  have hO2 : ord S S2 = O := by rw [hO, eS, eS2, eX, eY]; exact ord_hex xs ys hx hy
  have htw := fun W h1 => twin_any A c xs W (by rw [hl1]; omega) h1
  rw [hl1] at htw
  have cS := fun (g : Nat) (W : World) (h : Blk W g (xs ++ [28])) => hex_is (some ⟨g, 0, none⟩) (n + 1) n xs S eS hx hl1 (by omega) W h.row
  have cT := fun (g : Nat) (W : World) (h : Blk W g (xs ++ [28])) => b64_is (some ⟨g, 0, none⟩) (n + 1) n xs T eT hx hl1 (by omega) (by omega) W h.row
  have cS1 : ∀ W, Calls Try.prog 15 #[.string S] W (SomePost n xs W) := fun W => by
    have := (fromHex_any S W (by omega)).mono (FromPost.toSome (by rw [iS]; exact unhex_hex xs hx))
    rwa [hl1] at this
  have cT1 : ∀ W, Calls Try.prog 16 #[.string T] W (SomePost n xs W) := fun W => by
    have := (fromB64_any T W (by omega)).mono (FromPost.toSome (by rw [iT]; exact unb64_b64 xs hx))
    rwa [hl1] at this
  have z48 : (S ++ ⟨#[48]⟩ : ByteArray).size = 2 * n + 1 := by rw [ByteArray.size_append, zS]; rfl
  have z61 : (T ++ ⟨#[61]⟩ : ByteArray).size = T.size + 1 := by rw [ByteArray.size_append]; rfl
  have cS2 : ∀ W, Calls Try.prog 15 #[.string (S ++ ⟨#[48]⟩)] W (NonePost W) := fun W =>
    (fromHex_any _ W (by omega)).mono (FromPost.toNone (unhex_odd _ _ (Nat.le_refl _) (by rw [ints_length, z48]; omega)))
  have cT2 : ∀ W, Calls Try.prog 16 #[.string (T ++ ⟨#[61]⟩)] W (NonePost W) := fun W =>
    (fromB64_any _ W (by omega)).mono (FromPost.toNone (by rw [ints_app]; exact pad_none _))
  have cT3 : ∀ (u : ByteArray), u.size = 5 - T.size % 4 → ∀ W, Calls Try.prog 16 #[.string (T ++ u)] W (NonePost W) := fun u hu W =>
    (fromB64_any _ W (by rw [ByteArray.size_append]; omega)).mono (FromPost.toNone (lone_none _ (by rw [ints_length, ByteArray.size_append]; omega)))
  have cT4 : ∀ W, Calls Try.prog 16 #[.string (T ++ (⟨#[65, 65, 65, 65, 65]⟩ : ByteArray).extract 0 (5 - (8 * n + 5) / 6 % 4))] W (NonePost W) := cT3 _ (by
    rw [ByteArray.size_extract, zT]
    have : (⟨#[65, 65, 65, 65, 65]⟩ : ByteArray).size = 5 := rfl
    omega)
  have hR := Lib.hid hr
  have hRY := Lib.hid hry
  have cv1 := fun (W : World) (h : Below w.heap.size w W) => conv_row c (hR.out.kept h) hl1
  have cv2 := fun (W : World) (h : Below w.heap.size w W) => conv_row d (hRY.out.kept h) hl2
  have cv3 := fun (D : Option Addr) (cd : Nat) (W : World) (h : RK W .u8 D xs) => conv_row (n := n) cd h hl1
  have k1 := fun (W : World) (h : Below w.heap.size w W) => hex_is B d m ys S2 eS2 hy hl2 (by omega) W (hRY.out.kept h)
  have k2 := fun (W : World) (h : Below w.heap.size w W) => b64_is B d m ys T2 eT2 hy hl2 (by omega) hcap2 W (hRY.out.kept h)
  have l1 : ∀ W, Calls Try.prog 17 #[.string S, .string S2] W fun e w' => e = .returned (.int .i64 O) ∧ Below W.heap.size W w' := fun W => by rw [← hO2]; exact less_any S S2 W
  have l2 : ∀ W, Calls Try.prog 17 #[.string X, .string Y] W fun e w' => e = .returned (.int .i64 O) ∧ Below W.heap.size W w' := fun W => by rw [hO]; exact less_any X Y W
  obtain ⟨r, hr0⟩ : ∃ r, r = decide (xs = ys) := ⟨_, rfl⟩
  have q1 : (T.toList == T2.toList) = r := by
    rw [eT, eT2, eq_nums _ _ (b64L_bytes _ hx) (b64L_bytes _ hy), hr0]
    exact decide_eq_decide.2 ⟨b64L_inj hx hy, fun e => by rw [e]⟩
  have q2 : (X.toList == Y.toList) = r := by rw [eX, eY, eq_nums _ _ hx hy, hr0]
  rw [← eX] at cv1 cv3
  rw [← eY] at cv2
  have CV1 := Lib.hid cv1
  have CV2 := Lib.hid cv2
  have CV3 := Lib.hid cv3
  have ha1 : S.size + 1 ≤ 9223372036854775807 := by omega
  have ha2 : T.size + 5 ≤ 9223372036854775807 := by omega
  clear hr hry eS eS2 eT eT2 eX eY iS iT hO hO2 hr0 cv1 cv2 cv3 z48 z61
  go_enter Try.func5, Try.ntmps5
  go_upto_region 4 with (first
    | (go_at_call 8; refine (htw _ hR.out).mono ?_; rintro e w1 ⟨g, rfl, hg0, hgb, hb1⟩)
    | (go_at_call 13; refine (cS g _ hgb).mono ?_; rintro e w2 ⟨rfl, hb2⟩))
  have h02 : Below w.heap.size w w2 := below_on hb1 hb2
  clear hb1 hb2 hgb hg0
  go_upto_region 5 with (first
    | (go_at_call 8; refine (htw _ (hR.out.kept h02)).mono ?_; rintro e w3 ⟨g, rfl, hg0, hgb, hb3⟩)
    | (go_at_call 14; refine (cT g _ hgb).mono ?_; rintro e w4 ⟨rfl, hb4⟩))
  have h04 : Below w.heap.size w w4 := below_on h02 (below_on hb3 hb4)
  clear hb3 hb4 hgb hg0 h02
  go_upto_region 6 with (go_at_call 15; refine (cS1 _).mono ?_; rintro e w5 ⟨D, cD, rfl, hD, hDc, hb5⟩)
  go_upto_region 7 with (go_at_call 16; refine (cT1 _).mono ?_; rintro e w6 ⟨E, cE, rfl, hE, hEc, hb6⟩)
  have h06 : Below w.heap.size w w6 := below_on (below_on h04 hb5) hb6
  have v1 := CV1.out w6 h06
  have v2 := CV3.out D cD w6 (hD.below hb6)
  have v3 := CV3.out E cE w6 hE
  clear hb5 hb6 h04 hD hE
  go_upto_region 9 with fail
  have u1 : ∀ W, Below w6.heap.size w6 W → (convert 22 9 (.slice A n c)).run Try.prog W = .ok (.string X) W := fun W h => CV1.out W (below_on h06 h)
  have u2 : ∀ W, Below w6.heap.size w6 W → (convert 22 9 (.slice B m d)).run Try.prog W = .ok (.string Y) W := fun W h => CV2.out W (below_on h06 h)
  have U1 := Lib.hid u1
  have U2 := Lib.hid u2
  clear v1 v2 v3 u1 u2
  go_cut [98] (fun r W => r = .bool false ∧ Below w6.heap.size w6 W)
  case first =>
    go_region_held3 (fun W => Below w6.heap.size w6 W ∧ (convert 22 9 (.slice A n c)).run Try.prog W = .ok (.string X) W ∧ (convert 22 9 (.slice B m d)).run Try.prog W = .ok (.string Y) W)
      (refine ⟨?_, ?_, ?_⟩ <;> first | exact (Below.refl _ _).drew | exact below_on hbX hb7 | exact U1.out _ (Below.refl _ _).drew | exact U2.out _ (Below.refl _ _).drew | exact U1.out _ (below_on hbX hb7) | exact U2.out _ (below_on hbX hb7) | assumption) (first
      | (go_at_call 13; have hbX := (‹Below w6.heap.size w6 _ ∧ _ ∧ _›).1; with_reducible refine (k1 _ (below_on h06 hbX)).mono ?_; rintro e w7 ⟨rfl, hb7⟩)
      | (go_at_call 14; have hbX := (‹Below w6.heap.size w6 _ ∧ _ ∧ _›).1; with_reducible refine (k2 _ (below_on h06 hbX)).mono ?_; rintro e w7 ⟨rfl, hb7⟩)
      | (go_at_call 17; have hbX := (‹Below w6.heap.size w6 _ ∧ _ ∧ _›).1; with_reducible refine (l1 _).mono ?_; rintro e w7 ⟨rfl, hb7⟩)
      | (go_at_call 17; have hbX := (‹Below w6.heap.size w6 _ ∧ _ ∧ _›).1; with_reducible refine (l2 _).mono ?_; rintro e w7 ⟨rfl, hb7⟩))
    all_goals (go_wp2_with fail; go_meet; exact ⟨rfl, by first | assumption | exact (‹Below w6.heap.size w6 _ ∧ _ ∧ _›).1⟩)
  case rest =>
    obtain ⟨rfl, hcb⟩ := hcut
    have h0c := below_on h06 hcb
    clear h06 hcb U1 U2
    go_upto_region 12 with (go_at_call 15; refine (cS2 _).mono ?_; rintro e w8 ⟨rfl, hb8⟩)
    go_upto_region 13 with (go_at_call 16; refine (cT2 _).mono ?_; rintro e w9 ⟨rfl, hb9⟩)
    go_upto_region 14 with (go_at_call 16; refine (cT4 _).mono ?_; rintro e w10 ⟨rfl, hb10⟩)
    go_wp2_with (go_at_call 11; refine (lives_any _).mono ?_; rintro e w11 ⟨rfl, hb11⟩)
    go_ret
    exact ⟨rfl, below_on h0c (below_on (below_on (below_on hb8 hb9) hb10) hb11)⟩
theorem backW (a0 : Option Addr) (len0 cap0 : Nat) (z0 : List Int) (a1 : Option Addr) (len1 cap1 : Nat) (z1 : List Int) (w : World) (w0 : IsRow .u8 w a0 len0 cap0 z0) (hr0 : cap0 * 1 ≤ 140737488351232)
    (w1 : IsRow .u8 w a1 len1 cap1 z1) (hr1 : cap1 * 1 ≤ 140737488351232) :
    Calls Try.prog 5 #[.slice a0 len0 cap0, .slice a1 len1 cap1] w fun e w' => e = .returned (.bool true) ∧ Below w.heap.size w w' := by
  obtain ⟨xs, hl0, hx, hrx, hc0⟩ := w0.rk
  obtain ⟨ys, hl1, hy, hry, hc1⟩ := w1.rk
  by_cases hbig : 16777216 < len0 + len1
  · exact back_big a0 a1 len0 len1 cap0 cap1 w (by omega) (by omega) hbig
  · exact back_some a0 a1 cap0 cap1 len0 len1 xs ys w hl0 hl1 hx hy hrx hry hc0 hc1 (by omega)
end Go.Proofs.Ytjnmjgpkicbbdaa
