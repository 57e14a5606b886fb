/- The chapter's first examples: cruciblelaw11.lives. -/
import Derived.Test.YtjnmjgpkicbbdaaGreatDoorI
import Derived.Test.YtjnmjgpkicbbdaaGreatDoorP
import Derived.Lib.SlBytesConst
import Derived.Lib.SmallJoins
namespace Go.Proofs.YtjnmjgpkicbbdaaGreatDoor
open Go.RowKit
set_option maxRecDepth 100000
set_option linter.unusedVariables false
set_option linter.unusedSimpArgs false

theorem b3 (a b c : Int) (h : (0 ≤ a ∧ a ≤ 255) ∧ (0 ≤ b ∧ b ≤ 255) ∧ (0 ≤ c ∧ c ≤ 255)) : Bytes [a, b, c] := Bytes.cons h.1.1 h.1.2 (Bytes.cons h.2.1.1 h.2.1.2 (Bytes.one h.2.2.1 h.2.2.2))
theorem unhex_ff : unhexL (ints ⟨#[48, 48, 102, 102, 49, 48]⟩) = some [0, 255, 16] := unhex_hex [0, 255, 16] (b3 _ _ _ (by decide))
theorem unhex_0F : unhexL (ints ⟨#[48, 70]⟩) = none := by
  show unhexL [48, 70] = none
  have h : hv 70 < 0 := by
    rcases Int.lt_or_le (hv 70) 0 with h | h
    · exact h
    · have := dg_hv 70 h
      unfold dg at this
      have h1 := this.1
      split at h1 <;> omega
  simp [unhexL, h]
theorem unb_foob : unb64L (ints ⟨#[90, 109, 57, 118, 89, 103]⟩) = some [102, 111, 111, 98] := by
  show (if _ then _ else unb 0 0 (b64L [102, 111, 111, 98])) = _
  rw [if_neg (by decide)]
  exact unb_b64 _ (Bytes.cons (by decide) (by decide) (b3 _ _ _ (by decide)))
theorem unb_lone : unb64L (ints ⟨#[90, 109, 57]⟩) = none := by
  show (if _ then _ else unb 0 0 [90, 109, 57]) = _
  rw [if_neg (by decide)]
  have e1 := lv_lt 25 (by decide) (by decide)
  have e2 := lv_lt 38 (by decide) (by decide)
  have e3 := lv_lt 61 (by decide) (by decide)
  simp only [show lt 25 = 90 from by decide, show lt 38 = 109 from by decide, show lt 61 = 57 from by decide] at e1 e2 e3
  simp [unb, e1, e2, e3]

def SomePost (A0 : Nat) (ys : List Int) (w : World) (e : Ending) (w' : World) : Prop :=
  ∃ A c, e = .returned (.tuple #[.slice A A0 c, .bool true]) ∧ RK w' .u8 A ys ∧ A0 ≤ c ∧ Below w.heap.size w w'
def NonePost (w : World) (e : Ending) (w' : World) : Prop := e = .returned (.tuple #[.slice none 0 0, .bool false]) ∧ Below w.heap.size w w'
theorem FromPost.toSome {r : Option (List Int)} {ys : List Int} {w : World} (h : r = some ys) : ∀ e w', FromPost r w e w' → SomePost ys.length ys w e w' := by
  rintro e w' ⟨hb, _, h2⟩
  obtain ⟨A, c, h1, h3, h4, _⟩ := h2 ys h
  exact ⟨A, c, h1, h3, h4, hb⟩
theorem FromPost.toNone {r : Option (List Int)} {w : World} (h : r = none) : ∀ e w', FromPost r w e w' → NonePost w e w' := by
  rintro e w' ⟨hb, h1, _⟩
  exact ⟨h1 h, hb⟩
theorem live_1 (w : World) : Calls Tryz.prog 5 #[.string ⟨#[48, 48, 102, 102, 49, 48]⟩] w (SomePost 3 [0, 255, 16] w) := (fromHex_any _ w (by decide)).mono (FromPost.toSome unhex_ff)
theorem live_2 (w : World) : Calls Tryz.prog 5 #[.string ⟨#[48, 70]⟩] w (NonePost w) := (fromHex_any _ w (by decide)).mono (FromPost.toNone unhex_0F)
theorem live_3 (w : World) : Calls Tryz.prog 9 #[.string ⟨#[90, 109, 57, 118, 89, 103]⟩] w (SomePost 4 [102, 111, 111, 98] w) := (fromB64_any _ w (by decide)).mono (FromPost.toSome unb_foob)
theorem live_4 (w : World) : Calls Tryz.prog 9 #[.string ⟨#[90, 109, 57]⟩] w (NonePost w) := (fromB64_any _ w (by decide)).mono (FromPost.toNone unb_lone)
theorem live_5 (A : Option Addr) (c : Nat) (w : World) (hr : RK w .u8 A [0, 255, 16]) : Calls Tryz.prog 60 #[.slice A 3 c] w fun e w' => e = .returned (.string ⟨#[48, 48, 102, 102, 49, 48]⟩) ∧ Below w.heap.size w w' :=
  hex_any A c [0, 255, 16] w (b3 _ _ _ (by decide)) (by decide) hr
theorem live_6 (A : Option Addr) (w : World) (hr : RK w .u8 A [251, 255, 191]) : Calls Tryz.prog 61 #[.slice A 3 3] w fun e w' => e = .returned (.string ⟨#[45, 95, 45, 95]⟩) ∧ Below w.heap.size w w' :=
  b64_row A 3 [251, 255, 191] w (b3 _ _ _ (by decide)) (by decide) hr (by decide)
theorem nums_at (k : IntKind) (xs : List Int) (j : Nat) (h : j < xs.length) : (numsK k xs).toArray[j]? = some (.int k (xs.getD j 0)) := by
  simp [numsK, List.getElem?_eq_getElem h, List.getD_eq_getElem?_getD]
abbrev lit32 : List Int := [48, 49, 50, 51, 52, 53, 54, 55, 56, 57, 97, 98, 99, 100, 101, 102, 48, 49, 50, 51, 52, 53, 54, 55, 56, 57, 97, 98, 99, 100, 101, 102]
theorem lives_any (w : World) : Calls Tryz.prog 11 #[] w fun e w' => e = .returned (.bool true) ∧ Below w.heap.size w w' := by
  go_enter Tryz.func11, Tryz.ntmps11
  go_upto_region 2 with (go_at_call 5; refine (live_1 _).mono ?_; rintro e w1 ⟨A, c, rfl, hA, hAc, hb1⟩)
  go_upto_region 3 with (go_at_call 5; refine (live_2 _).mono ?_; rintro e w2 ⟨rfl, hb2⟩)
  go_upto_region 4 with (go_at_call 9; refine (live_3 _).mono ?_; rintro e w3 ⟨B, d, rfl, hB, hBd, hb3⟩)
  go_upto_region 5 with (go_at_call 9; refine (live_4 _).mono ?_; rintro e w4 ⟨rfl, hb4⟩)
  have hA4 := hA.below ((below_on (below_on hb2 hb3) hb4))
  have hB4 := hB.below hb4
  have hbw : Below w.heap.size w w4 := below_on (below_on (below_on hb1 hb2) hb3) hb4
  clear hA hB hb1 hb2 hb3 hb4
  have hconv := Lib.run_convert_bytes_const (P := Tryz.prog) w4 39 5 (numsK .u8 lit32).toArray 32 32 Tryz.underlying39 Tryz.underlying5
  have hcell : Hid (∀ j, j < lit32.length → (w4.alloc (.cells (numsK .u8 lit32).toArray 5 (32, 33))).cell? ⟨w4.heap.size, 0 + j, none⟩ = some (.int .u8 (lit32.getD j 0))) := by
    intro j hj
    rw [Joins.cell_alloc_mark_at _ _ _ _ _ _ rfl]
    rw [Nat.zero_add]
    exact nums_at _ _ j hj
  have hconv2 : (convert 39 39 (Value.slice (some { block := w4.heap.size, off := 0 }) 32 32)).run Tryz.prog (w4.alloc (.cells (numsK .u8 lit32).toArray 5)) = _ := hconv
  simp only [numsK, List.map] at hconv2 hcell
  go_upto_region 6 with (first
    | (go_at_call 59; refine (sum_yes w4.heap.size 0 32 lit32 _ rfl hcell.out).mono ?_; rintro e w5 ⟨rfl, hb5⟩; have hT : Hid ((w5.alloc (.cells zeros32 51)).there w5.heap.size 0 (numsK .u8 lit32).toArray.size) := Lib.hid (there_new w5); have hZ : Hid ((Tryz.prog.info? 51).map (·.size) = some (numsK .u8 lit32).toArray.size) := Lib.hid size27; have hA1 : Hid ((numsK .u8 lit32).toArray.all (·.oneCell') = true) := Lib.hid (by kernel_rfl))
    | (with_reducible refine wpList_store_mid rfl 51 (.tmp 9) (.tmp 31) rfl w5.heap.size 0 (numsK .u8 lit32).toArray rfl rfl hT.out hZ.out hA1.out ?_))
  have hbW : Below w5.heap.size w5 ((w5.alloc (.cells zeros32 51)).setCells w5.heap.size 0 (numsK .u8 lit32)) := below_setCells _ _ _ _ ((Below.refl _ _).alloc (Nat.le_refl _) _) (Nat.le_refl _)
  have h31 : ((w5.alloc (.cells zeros32 51)).setCells w5.heap.size 0 (numsK .u8 lit32)).cell? ⟨w5.heap.size, 31, none⟩ = some (.int .u8 102) :=
    (World.rangeAt_setCells_same _ _ _ _ (there_new w5) : ((w5.alloc (.cells zeros32 51)).setCells w5.heap.size 0 (numsK .u8 lit32)).rangeAt w5.heap.size 0 (numsK .u8 lit32)) 31 _ rfl
  show Code.wp _ _ _ _ ((w5.alloc (.cells zeros32 51)).setCells w5.heap.size 0 (numsK .u8 lit32))
  have hb45 : Below w4.heap.size w4 w5 := Below.trans ((Below.refl _ _).alloc (Nat.le_refl _) (.cells (numsK .u8 lit32).toArray 5 (32, 33))) (hb5.mono (by simp))
  clear hconv hconv2 hcell hb5 hT
  generalize (w5.alloc (.cells zeros32 51)).setCells w5.heap.size 0 (numsK .u8 lit32) = W at hbW h31 ⊢
  have hB6 := hB4.below (below_on hb45 hbW)
  have hA6 := hA4.below (below_on hb45 hbW)
  have hlt5 : w5.heap.size < W.heap.size := World.block_lt_of_cell? W _ h31
  have hall : Below w.heap.size w W := below_on hbw (below_on hb45 hbW)
  clear hbw hb45 hbW hA4 hB4 hZ hA1
  generalize w5.heap.size = g at *
  go_wp2_with (first
    | (go_at_call 60; refine (live_5 _ _ _ hA6).mono ?_; rintro e w7 ⟨rfl, hb7⟩; have hcv : (convert 39 9 (.slice B 4 d)).run Tryz.prog w7 = .ok (.string ⟨#[102, 111, 111, 98]⟩) w7 := conv_RK (P := Tryz.prog) (src := 39) (dst := 9) (e := 5) Tryz.underlying39 Tryz.underlying5 Tryz.underlying9 d (hB6.below hb7) (by intro h; cases h); have h31' : w7.cell? ⟨g, 31, none⟩ = some (.int .u8 102) := (hb7.cell hlt5).trans h31)
    | (go_at_call 61; refine (live_6 _ _ (.inr ⟨w7.heap.size, 0, rfl, by intro j hj; rw [Joins.cell_alloc_mark_at _ _ _ _ _ _ rfl, Nat.zero_add]; exact nums_at .u8 [251, 255, 191] j hj⟩)).mono ?_; rintro e w8 ⟨rfl, hb8⟩))
  go_ret
  exact ⟨rfl, Below.trans (Below.alloc (below_on hall hb7) (below_on hall hb7).size _) (hb8.mono (by have := (below_on hall hb7).size; simp; omega))⟩
end Go.Proofs.YtjnmjgpkicbbdaaGreatDoor
