/- What base.FromHex answers, for any text. -/
import Derived.Test.YtjnmjgpkicbbdaaGreatDoorD
import Derived.Deep.RegionHeld3
import Derived.Deep.DeepCutAuto
import Derived.Outline
namespace Go.Proofs.YtjnmjgpkicbbdaaGreatDoor
open Go.RowKit
set_option maxRecDepth 100000
set_option linter.unusedVariables false
set_option linter.unusedSimpArgs false

def hv (c : Int) : Int := numFrom digitsS c 0
def unhexL : List Int → Option (List Int)
  | [] => some []
  | [_] => none
  | x :: y :: r => if hv x < 0 ∨ hv y < 0 then none else (unhexL r).map fun l => (hv x * 16 + hv y) :: l

theorem digits_ascii : ∀ (k : Nat) (h : k < digitsS.size), (digitsS[k]'h).toNat < 128 := by
  have : ∀ i : Fin digitsS.size, (digitsS[i.val]'i.isLt).toNat < 128 := by decide
  exact fun k h => this ⟨k, h⟩

theorem number_hex (c : Int) (w : World) (h0 : 0 ≤ c) (h1 : c ≤ 255) :
    Calls Tryz.prog 14 #[.string ⟨#[48, 49, 50, 51, 52, 53, 54, 55, 56, 57, 97, 98, 99, 100, 101, 102]⟩, .int .u8 c] w fun e w' => e = .returned (.int .i64 (hv c)) ∧ Below w.heap.size w w' :=
  number_any digitsS c w digits_ascii (by decide) h0 h1

theorem hv_tab : ∀ n : Nat, n < 17 → ∀ c, numFrom digitsS c (16 - n) = -1 ∨ (0 ≤ numFrom digitsS c (16 - n) ∧ numFrom digitsS c (16 - n) ≤ 15) := by
  intro n
  induction n with
  | zero => intro _ c; left; rw [numFrom, dif_neg (by decide)]
  | succ n ih =>
    intro hn c
    have hlt : 16 - (n + 1) < digitsS.size := by have : digitsS.size = 16 := rfl; omega
    rw [numFrom, dif_pos hlt]
    split
    · right; omega
    · have := ih (by omega) c
      rwa [show 16 - (n + 1) + 1 = 16 - n from by omega]
theorem hv_range (c : Int) : -1 ≤ hv c ∧ hv c ≤ 15 := by
  have := hv_tab 16 (by omega) c
  unfold hv
  simp at this
  omega
theorem drop_two (s : ByteArray) (m : Nat) (h : m + 1 < s.size) : (ints s).drop m = ((s[m]'(by omega)).toNat : Int) :: ((s[m + 1]'h).toNat : Int) :: (ints s).drop (m + 2) := by
  have hl := ints_length s
  have e0 := ints_at s m (by omega)
  have e1 := ints_at s (m + 1) h
  rw [List.getD_eq_getElem?_getD, List.getElem?_eq_getElem (by omega)] at e0 e1
  rw [List.drop_eq_getElem_cons (by omega), List.drop_eq_getElem_cons (i := m + 1) (by omega)]
  simp only [Option.getD_some] at e0 e1
  rw [e0, e1]

theorem fromHex_odd (s : ByteArray) (w : World) (hn : s.size ≤ 140737488351232) (h : s.size % 2 = 1) :
    Calls Tryz.prog 5 #[.string s] w fun e w' => e = .returned (.tuple #[.slice none 0 0, .bool false]) ∧ Below w.heap.size w w' := by
  have hb : ((s.size : Int) % 2 != 0) = true := by simp; omega
  go_enter Tryz.func5, Tryz.ntmps5
  go_wp2
  go_ret2
  exact ⟨rfl, Below.refl _ _⟩

theorem make_bytes (w : World) (n : Nat) (hn : n ≤ 140737488351232) : ∃ w1, (Instr.makeSlice 39 (.int .i64 0) (.int .i64 (n : Int))).run Tryz.prog w = .ok (.slice (some ⟨w.heap.size, 0, none⟩) 0 n) w1 ∧
    Own w1 w.heap.size 5 .u8 (.slice (some ⟨w.heap.size, 0, none⟩) 0 n) [] ∧ Below w.heap.size w w1 := by
  obtain ⟨i0, hi, hz0, hz1, hz2⟩ := info_parts info_byte
  obtain ⟨w1, h1, h2, h3⟩ := run_make_own (P := Tryz.prog) w w.heap.size 39 5 i0 (.int .u8 0) 1 Tryz.underlying39 hi hz0 hz1 .i64 .i64 n (by rw [hz2]; omega) (by simp [maxLen]; omega) (Nat.le_refl _)
  exact ⟨w1, h1, h2, ⟨h3.os, h3.tape, h3.output, h3.size, fun k hk => h3.block k hk (by simp)⟩⟩

/-- What a reader of letters answers: the bytes and true, or nil and false. -/
def FromPost (r : Option (List Int)) (w : World) (e : Ending) (w' : World) : Prop :=
  Below w.heap.size w w' ∧ (r = none → e = .returned (.tuple #[.slice none 0 0, .bool false])) ∧
    ∀ ys, r = some ys → ∃ A c, e = .returned (.tuple #[.slice A ys.length c, .bool true]) ∧ RK w' .u8 A ys ∧ ys.length ≤ c ∧ (A = none ∨ ∃ b off, A = some ⟨b, off, none⟩) ∧ Own w' w.heap.size 5 .u8 (.slice A ys.length c) ys
theorem FromPost.no {r : Option (List Int)} {w w' : World} (h : r = none) (hb : Below w.heap.size w w') : FromPost r w (.returned (.tuple #[.slice none 0 0, .bool false])) w' :=
  ⟨hb, fun _ => rfl, fun ys e => by rw [h] at e; cases e⟩
theorem FromPost.yes {r : Option (List Int)} {w w' : World} {A : Option Addr} {c : Nat} {ys : List Int} (h : r = some ys) (hb : Below w.heap.size w w') (hr : RK w' .u8 A ys) (hc : ys.length ≤ c)
    (hA : A = none ∨ ∃ b off, A = some ⟨b, off, none⟩) (ho : Own w' w.heap.size 5 .u8 (.slice A ys.length c) ys) : FromPost r w (.returned (.tuple #[.slice A ys.length c, .bool true])) w' :=
  ⟨hb, (fun e => by rw [h] at e; cases e), (fun zs e => by rw [h] at e; obtain rfl := Option.some.inj e; exact ⟨A, c, rfl, hr, hc, hA, ho⟩)⟩

theorem wraps_i64 (n : Int) (h₀ : 0 ≤ n) (h₁ : n < 2 ^ 24) : IntKind.i64.wrap n = n := by
  rw [IntKind.wrap_i64]; omega
theorem or_i64 (H L : Int) (h0 : 0 ≤ H) (h1 : H ≤ 15) (l0 : 0 ≤ L) (l1 : L ≤ 15) : bits BinOp.or .i64 (H * 16) L = H * 16 + L :=
  bits_join .i64 24 (by decide) wraps_i64 4 _ _ (by omega) (by omega) (by omega) l0 (by omega) (by omega)

theorem fromHex_even (s : ByteArray) (w : World) (hn : s.size ≤ 140737488351232) (h : s.size % 2 = 0) :
    Calls Tryz.prog 5 #[.string s] w (FromPost (unhexL (ints s)) w) := by
  have hb : ((s.size : Int) % 2 != 0) = false := by simp; omega
  obtain ⟨w1, hmk, hO, hB⟩ := make_bytes w (s.size / 2) (by omega)
  rw [show ((s.size / 2 : Nat) : Int) = (s.size : Int) / 2 from by omega] at hmk
  have HO := Lib.hid hO
  clear hO
  go_enter Tryz.func5, Tryz.ntmps5
  go_wp2
  go_loopw [4, 5, 6, 7] (fun v i _ _ W => ∃ (m : Nat) (ys : List Int), m ≤ s.size ∧ m % 2 = 0 ∧ i = .int .i64 m ∧ Own W w.heap.size 5 .u8 v ys ∧ 2 * ys.length = m ∧ Hid (unhexL (ints s) = (unhexL ((ints s).drop m)).map (ys ++ ·)) ∧ Below w.heap.size w W) (fun _ i _ _ _ => s.size - (intOf i).toNat)
  case atStart => exact ⟨0, [], by omega, by omega, rfl, HO.out, rfl, by show _ = _; simp, hB⟩
  case round =>
    obtain ⟨m, ys, hm, hm2, rfl, ho, hyl, hu, hbl⟩ := hrel
    by_cases hlt : m < s.size
    · have hlt1 : m + 1 < s.size := by omega
      have hYL := Lib.hid hyl
      clear hyl
      have hx := (s[m]'hlt).toNat_lt
      have hy := (s[m + 1]'hlt1).toNat_lt
      have hw1 : IntKind.i64.wrap ((m : Int) + 1) = (m : Int) + 1 := IntWalk.i64_in _ (by omega)
      have hw2 : 0 ≤ (m : Int) + 1 := by omega
      have hw3 : ((m : Int) + 1).toNat = m + 1 := by omega
      have hw4 : (m : Int) + 1 < (s.size : Int) := by omega
      go_upto_region 7 with fail
      go_cut [6, 7] (fun h l W => h = .int .i64 (hv ((s[m]'hlt).toNat : Int)) ∧ l = .int .i64 (hv ((s[m + 1]'hlt1).toNat : Int)) ∧ Below wr.heap.size wr W)
      case first =>
        go_region_held3 (fun W => Below wr.heap.size wr W) (first | exact (Below.refl _ _).drew | exact below_on (by assumption) hb2 | assumption) (first | (go_at_call 14; refine (number_hex _ _ (by omega) (by omega)).mono ?_; rintro e w2 ⟨rfl, hb2⟩))
        all_goals (go_wp2_with fail; go_meet; exact ⟨rfl, rfl, by assumption⟩)
      case rest =>
        obtain ⟨rfl, rfl, hcb⟩ := hcut
        have hH := hv_range ((s[m]'hlt).toNat : Int)
        have hL := hv_range ((s[m + 1]'hlt1).toNat : Int)
        have hdrop : Hid ((ints s).drop m = ((s[m]'hlt).toNat : Int) :: ((s[m + 1]'hlt1).toNat : Int) :: (ints s).drop (m + 2)) := drop_two s m hlt1
        generalize ((s[m]'hlt).toNat : Int) = X at *
        generalize ((s[m + 1]'hlt1).toNat : Int) = Y at *
        obtain ⟨H, hHX⟩ : ∃ H, H = hv X := ⟨_, rfl⟩
        obtain ⟨L, hLY⟩ : ∃ L, L = hv Y := ⟨_, rfl⟩
        rw [← hHX] at hH ⊢
        rw [← hLY] at hL ⊢
        have HH := Lib.hid hHX
        have HL := Lib.hid hLY
        clear hHX hLY
        obtain ⟨hH0, hH1⟩ := hH
        obtain ⟨hL0, hL1⟩ := hL
        have hbw : Below w.heap.size w wc := hbl.trans (hcb.mono hbl.size)
        have hsz : w.heap.size ≤ wc.heap.size := hbw.size
        have how := ho.kept hcb
        by_cases hneg : H < 0 ∨ L < 0
        · have hnone : unhexL (ints s) = none := by
            rw [hu.out, hdrop.out, unhexL, ← HH.out, ← HL.out, if_pos hneg]; rfl
          have HN := Lib.hid hnone
          clear hnone
          by_cases hh : H < 0
          · have hd1 : decide (H < 0) = true := by simp; omega
            clear hneg ho how
            go_wp2
            go_ret2
            exact FromPost.no HN.out hbw
          · have hd1 : decide (H < 0) = false := by simp; omega
            have hd2 : decide (L < 0) = true := by simp; omega
            clear hneg ho how
            go_wp2
            go_ret2
            exact FromPost.no HN.out hbw
        · have hd1 : decide (H < 0) = false := by simp; omega
          have hd2 : decide (L < 0) = false := by simp; omega
          have hor : bits BinOp.or .i64 (H * 16) L = H * 16 + L := or_i64 H L (by omega) (by omega) (by omega) (by omega)
          have hstep : Hid (unhexL (ints s) = (unhexL ((ints s).drop (m + 2))).map ((ys ++ [H * 16 + L]) ++ ·)) := by
            show _ = _
            rw [hu.out, hdrop.out, unhexL, ← HH.out, ← HL.out, if_neg hneg, Option.map_map]
            congr 1
            funext l
            simp
          have hb8 : H * 16 + L ≤ 255 := by omega
          have hb9 : 0 ≤ H * 16 + L := by omega
          have hyl2 := hYL.out
          have hylb : ys.length ≤ 70368744177664 := by omega
          clear hneg hyl2 ho
          go_wp2_with (at_builtin; refine app1 w.heap.size rfl (.tmp 37) (.tmp 43) 39 5 .u8 1 rfl Tryz.underlying39 info_byte _ ys _ rfl rfl how hbw hsz (by omega) (by omega) ?_; intro v1 w3 ho1 hb1 _)
          exact ⟨⟨m + 2, ys ++ [H * 16 + L], by omega, by omega, by go_num, ho1, by simp; have := hYL.out; omega, hstep, hb1⟩, by simp [intOf]; omega⟩
    · have hme : m = s.size := by omega
      have hsome : unhexL (ints s) = some ys := by
        rw [hu.out, List.drop_of_length_le (by rw [ints_length]; omega)]
        simp [unhexL]
      have HN := Lib.hid hsome
      have HYL := Lib.hid hyl
      obtain ⟨A, c, rfl, hr, hc, hA⟩ := ho.slice
      have HOW := Lib.hid ho
      clear hsome hyl hme ho
      go_wp2
      go_ret2
      exact FromPost.yes HN.out hbl hr hc hA HOW.out
theorem unhex_odd : ∀ (n : Nat) (xs : List Int), xs.length ≤ n → xs.length % 2 = 1 → unhexL xs = none
  | 0, xs, h, ho => by omega
  | n + 1, xs, h, ho => by
    match xs with
    | [] => simp at ho
    | [x] => rfl
    | x :: y :: r =>
      rw [unhexL]
      split
      · rfl
      · simp only [List.length_cons] at h ho
        rw [unhex_odd n r (by omega) (by omega)]
        rfl

theorem fromHex_any (s : ByteArray) (w : World) (hn : s.size ≤ 140737488351232) :
    Calls Tryz.prog 5 #[.string s] w (FromPost (unhexL (ints s)) w) := by
  by_cases h : s.size % 2 = 0
  · exact fromHex_even s w hn h
  · refine (fromHex_odd s w hn (by omega)).mono ?_
    rintro e w' ⟨rfl, hb⟩
    exact FromPost.no (unhex_odd _ _ (Nat.le_refl _) (by rw [ints_length]; omega)) hb
end Go.Proofs.YtjnmjgpkicbbdaaGreatDoor
