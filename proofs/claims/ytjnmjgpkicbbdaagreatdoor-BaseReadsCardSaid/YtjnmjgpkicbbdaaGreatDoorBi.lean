/- The walk of BaseReads. -/
import Derived.Test.YtjnmjgpkicbbdaaGreatDoorBh
import Derived.Test.YtjnmjgpkicbbdaaGreatDoorRf
import Derived.Test.YtjnmjgpkicbbdaaGreatDoorJ
namespace Go.Proofs.YtjnmjgpkicbbdaaGreatDoor
open Go.RowKit
set_option maxRecDepth 100000
set_option linter.unusedVariables false
set_option linter.unusedSimpArgs false
set_option linter.unnecessarySimpa false

/-- Either answer of a reader of letters, told in one form. -/
theorem FromPost.uni {r : Option (List Int)} {w : World} {e : Ending} {w' : World} (h : FromPost r w e w') : ∃ A c, e = .returned (.tuple #[.slice A (r.getD []).length c, .bool r.isSome]) ∧ Hid (RK w' .u8 A (r.getD []) ∧ Own w' w.heap.size 5 .u8 (.slice A (r.getD []).length c) (r.getD [])) ∧ Below w.heap.size w w' := by
  obtain ⟨hb, h1, h2⟩ := h
  cases r with
  | none => exact ⟨none, 0, h1 rfl, Lib.hid ⟨.inl rfl, Own.nil _ _ _ _⟩, hb⟩
  | some ys =>
    obtain ⟨A, c, e1, h3, _, _, h4⟩ := h2 ys rfl
    exact ⟨A, c, e1, Lib.hid ⟨h3, h4⟩, hb⟩
theorem Fills.half {wr w1 w2 w3 w4 : World} {B p : Nat} {E : Ents} {v : Value} (hF : Fills wr B p E v) (hN : E.N + 1 ≤ 100000) (hb1 : Below wr.heap.size wr w1) (hb2 : Below w1.heap.size w1 w2) (hb3 : Below w2.heap.size w2 w3)
    {A : Option Addr} {n c : Nat} {ys : List Int} (hO : Own w2 w1.heap.size 5 .u8 (.slice A n c) ys) (hn : ys.length = n) (hl : n ≤ 100000000000) (hk : KeepPost p E.N E.N B (one4 v) (rowCells E E.N) (.slice A n c) w3 w4) :
    (∃ v', Fills w4 B p (E.push A n c) v') ∧ Keeps (fun k => k = p ∨ B ≤ k) wr w4 := by
  have h1 := hF.below hb1
  refine ⟨h1.push (below_on hb2 hb3) (hO.kept hb3) hn hl hN hk, ?_⟩
  have k0 : Keeps (fun k => k = p ∨ B ≤ k) wr w3 := (Keeps.refl _ wr).below (below_on (below_on hb1 hb2) hb3)
  refine k0.trans (hk.k.mono fun k _ hh => ?_)
  rcases hh with hh | hh
  · exact .inl hh
  · exact .inr (World.ownsRow.lt hF.row k hh.symm).1
/-- The turn's state. -/
structure ReadsI (w W : World) (s t : ByteArray) (k : Nat) (E : Ents) (v : Value) : Prop where
  f : Fills W (w.heap.size + 2) w.heap.size E v
  N : E.N = k
  b : Below w.heap.size w W
  t : W.heap[w.heap.size + 1]? = some (.cells #[.string s, .string t, .string s] 38 (0, 0))
theorem ReadsI.step {w wr w1 w2 w3 w4 : World} {s t : ByteArray} {k : Nat} {E : Ents} {v : Value} (h : ReadsI w wr s t k E v) (hk2 : k + 1 ≤ 100000) (hb1 : Below wr.heap.size wr w1) (hb2 : Below w1.heap.size w1 w2) (hb3 : Below w2.heap.size w2 w3)
    {A : Option Addr} {n c : Nat} {ys : List Int} (hO : Own w2 w1.heap.size 5 .u8 (.slice A n c) ys) (hn : ys.length = n) (hl : n ≤ 100000000000) (hk : KeepPost w.heap.size E.N E.N (w.heap.size + 2) (one4 v) (rowCells E E.N) (.slice A n c) w3 w4) :
    ∃ E' v', ReadsI w w4 s t (k + 1) E' v' := by
  obtain ⟨⟨v', h1⟩, h2⟩ := h.f.half (by rw [h.N]; exact hk2) hb1 hb2 hb3 hO hn hl hk
  refine ⟨_, v', h1, by show E.N + 1 = k + 1; rw [h.N], h.b.trans (h2.toBelow (fun k _ hh => ?_) h.b.size), ?_⟩
  · rcases hh with hh | hh <;> omega
  · rw [h2.block _ (Array.getElem?_eq_some_iff.1 h.t).1 (by omega)]
    exact h.t
theorem ReadsI.text {w W : World} {s t : ByteArray} {k : Nat} {E : Ents} {v : Value} (h : ReadsI w W s t k E v) (i : Nat) (hi : i < 3) : W.cell? ⟨w.heap.size + 1, i, none⟩ = some (.string (if i = 1 then t else s)) := by
  rw [cell_of_row W _ _ _ _ _ h.t]
  have : i = 0 ∨ i = 1 ∨ i = 2 := by omega
  rcases this with rfl | rfl | rfl <;> rfl
theorem reads_start (w : World) (s t : ByteArray) : ReadsI w ((w.alloc (.cells #[.int .i64 0, .slice none 0 0, .slice none 0 0, .slice none 0 0, .slice none 0 0, .slice none 0 0, .slice none 0 0, .slice none 0 0, .slice none 0 0, .slice none 0 0, .slice none 0 0, .slice none 0 0, .slice none 0 0, .slice none 0 0, .slice none 0 0] 37)).alloc
    (.cells #[.string s, .string t, .string s] 38)) s t (2 * 0) Ents.none (.slice none 0 0) := by
  generalize hw1 : w.alloc (.cells #[.int .i64 0, .slice none 0 0, .slice none 0 0, .slice none 0 0, .slice none 0 0, .slice none 0 0, .slice none 0 0, .slice none 0 0, .slice none 0 0, .slice none 0 0, .slice none 0 0, .slice none 0 0, .slice none 0 0, .slice none 0 0, .slice none 0 0] 37) = w1
  have hs : w1.heap.size = w.heap.size + 1 := by rw [← hw1]; simp
  have hb : BookAt w1 w.heap.size 0 (one4 (.slice none 0 0)) := by rw [← hw1]; exact heap_alloc_new w _
  have hbl : Below w.heap.size w w1 := by rw [← hw1]; exact (Below.refl _ _).alloc (Nat.le_refl _) _
  refine ⟨Fills.begin ?_ (by simp; omega), rfl, hbl.alloc (by omega) _, ?_⟩
  · exact (Below.heap_alloc w1 _ _ (by omega)).trans hb
  · rw [← hs]; exact heap_alloc_new w1 _
theorem len_hex (x : ByteArray) : ((unhexL (ints x)).getD []).length ≤ x.size := by
  cases h : unhexL (ints x) with
  | none => simp
  | some ys =>
    have h2 := (hex_unhex _ _ _ (Nat.le_refl _) h).1
    have : ∀ l : List Int, (hexL l).length = 2 * l.length := fun l => by
      induction l with
      | nil => rfl
      | cons x l ih => simp [hexL, ih]; omega
    have h3 := this ys
    rw [h2, ints_len] at h3
    simp only [Option.getD_some]
    omega
theorem len_b64 (x : ByteArray) : ((unb64L (ints x)).getD []).length ≤ x.size := by
  cases h : unb64L (ints x) with
  | none => simp
  | some ys =>
    have h2 := (b64_unb64 _ _ h).1
    have h3 := b64L_len ys
    rw [h2, ints_len] at h3
    simp only [Option.getD_some]
    omega
theorem readsWalk (s t : ByteArray) (w : World) (hs : s.size ≤ 140737488355328) (ht : t.size ≤ 140737488355328) : Calls Tryz.prog 3 #[.string s, .string t] w fun e w' => e = .returned (.bool true) ∧ Below w.heap.size w w' := by
  by_cases hbig : s.size + t.size > 16777216
  · have hd : decide ((16777216 : Int) < (s.size : Int) + (t.size : Int)) = true := by simp; omega
    go_enter Tryz.func3, Tryz.ntmps3
    go_wp2
    go_ret
    exact ⟨rfl, Below.refl _ _⟩
  · have hd : decide ((16777216 : Int) < (s.size : Int) + (t.size : Int)) = false := by simp; omega
    have hsz : ∀ i, (if i = 1 then t else s : ByteArray).size ≤ 16777216 := fun i => by split <;> omega
    go_enter Tryz.func3, Tryz.ntmps3
    go_upto_region 6 with fail
    go_loopw [7, 8, 9, 10, 11] (fun i _ _ _ _ W => ∃ (k : Nat) (E : Ents) (v : Value), k ≤ 3 ∧ i = .int .i64 k ∧ Hid (ReadsI w W s t (2 * k) E v)) (fun i _ _ _ _ _ => 3 - (intOf i).toNat)
    case atStart => exact ⟨0, Ents.none, _, by omega, rfl, Lib.hid (reads_start w s t)⟩
    case round =>
      obtain ⟨k, E, v, hk, rfl, HI⟩ := hrel
      by_cases hlt : k < 3
      · obtain ⟨x, hx⟩ : ∃ x : ByteArray, (if k = 1 then t else s) = x := ⟨_, rfl⟩
        have hxs := hsz k
        have cx := HI.out.text k hlt
        rw [hx] at hxs cx
        have HTX := Lib.hid hx
        clear hx
        have H4 : Hid (∀ W, Calls Tryz.prog 4 #[.string x] W fun e w' => ∃ A c, e = .returned (.tuple #[.slice A ((unhexL (ints x)).getD []).length c, .bool (unhexL (ints x)).isSome]) ∧ Hid (RK w' .u8 A ((unhexL (ints x)).getD [])) ∧ Below W.heap.size W w') := Lib.hid fun W => (refFromHex_any x W hxs).mono fun e w' h => by
          obtain ⟨A, c, h1, h2, h3⟩ := h.uni
          exact ⟨A, c, h1, Lib.hid h2.out.1, h3⟩
        have H5 : Hid (∀ W, Calls Tryz.prog 5 #[.string x] W fun e w' => ∃ A c, e = .returned (.tuple #[.slice A ((unhexL (ints x)).getD []).length c, .bool (unhexL (ints x)).isSome]) ∧ Hid (RK w' .u8 A ((unhexL (ints x)).getD []) ∧ Own w' W.heap.size 5 .u8 (.slice A ((unhexL (ints x)).getD []).length c) ((unhexL (ints x)).getD [])) ∧ Below W.heap.size W w') := Lib.hid fun W => (fromHex_any x W (by omega)).mono fun e w' h => h.uni
        have H8 : Hid (∀ W, Calls Tryz.prog 8 #[.string x] W fun e w' => ∃ A c, e = .returned (.tuple #[.slice A ((unb64L (ints x)).getD []).length c, .bool (unb64L (ints x)).isSome]) ∧ Hid (RK w' .u8 A ((unb64L (ints x)).getD [])) ∧ Below W.heap.size W w') := Lib.hid fun W => (refFromB64_any x W hxs).mono fun e w' h => by
          obtain ⟨A, c, h1, h2, h3⟩ := h.uni
          exact ⟨A, c, h1, Lib.hid h2.out.1, h3⟩
        have H9 : Hid (∀ W, Calls Tryz.prog 9 #[.string x] W fun e w' => ∃ A c, e = .returned (.tuple #[.slice A ((unb64L (ints x)).getD []).length c, .bool (unb64L (ints x)).isSome]) ∧ Hid (RK w' .u8 A ((unb64L (ints x)).getD []) ∧ Own w' W.heap.size 5 .u8 (.slice A ((unb64L (ints x)).getD []).length c) ((unb64L (ints x)).getD [])) ∧ Below W.heap.size W w') := Lib.hid fun W => (fromB64_any x W (by omega)).mono fun e w' h => h.uni
        have l1 := len_hex x
        have l2 := len_b64 x
        generalize (unhexL (ints x)).isSome = b1 at H4 H5
        generalize (unb64L (ints x)).isSome = b2 at H8 H9
        generalize (unhexL (ints x)).getD [] = ys1 at *
        generalize (unb64L (ints x)).getD [] = ys2 at *
        have HS : Hid (∀ (ys : List Int) (n : Nat), ys.length = n → n ≤ x.size → ∀ A B c d W, RK W .u8 A ys → RK W .u8 B ys → Calls Tryz.prog 6 #[.slice A n c, .slice B n d] W fun e w' => e = .returned (.bool true) ∧ Below W.heap.size W w') := Lib.hid fun ys n hn hnx A B c d W r1 r2 => by
          subst hn
          refine (same_any A B c d ys ys W (by omega) r1 r2).mono ?_
          rintro e w' ⟨rfl, hb⟩
          exact ⟨by simp, hb⟩
        obtain ⟨n1, hn1⟩ : ∃ n, ys1.length = n := ⟨_, rfl⟩
        obtain ⟨n2, hn2⟩ : ∃ n, ys2.length = n := ⟨_, rfl⟩
        rw [hn1] at l1 H4 H5
        rw [hn2] at l2 H8 H9
        have HN1 := Lib.hid hn1
        have HN2 := Lib.hid hn2
        have hbb1 : (b1 != b1) = false := by cases b1 <;> rfl
        have hbb2 : (b2 != b2) = false := by cases b2 <;> rfl
        clear hn1 hn2
        go_upto_region 9 with (go_at_call 4; refine (H4.out _).mono ?_; rintro e w1 ⟨A1, c1, rfl, HX1, hb1⟩; have cx1 := (hb1.cell (World.block_lt_of_cell? _ _ cx)).trans cx)
        go_upto_region 10 with (go_at_call 5; refine (H5.out _).mono ?_; rintro e w2 ⟨A2, c2, rfl, HX2, hb2⟩)
        have HX3 := Lib.hid (HX1.out.below hb2)
        go_upto_region 12 with (go_at_call 6; refine (HS.out ys1 n1 HN1.out l1 A2 A1 c2 c1 _ HX2.out.1 HX3.out).mono ?_; rintro e w3 ⟨rfl, hb3⟩)
        have HK1 := Lib.hid (fills_keep (HI.out.f.below (below_on (below_on hb1 hb2) hb3)) A2 n1 c2)
        go_upto_region 13 with (go_at_call 7; refine HK1.out.mono ?_; rintro e w4 ⟨rfl, hk4⟩)
        have hI4 := HI.out.step (by omega) hb1 hb2 hb3 HX2.out.2 HN1.out (by omega) hk4
        clear HK1 hk4 HX1 HX2 HX3 cx cx1 hb1 hb2 hb3 HI
        obtain ⟨E4, v4, hI4⟩ := hI4
        have HI4 := Lib.hid hI4
        clear hI4
        have cy : w4.cell? ⟨w.heap.size + 1, k, none⟩ = some (.string x) := by rw [← HTX.out]; exact HI4.out.text k hlt
        go_upto_region 14 with (go_at_call 8; refine (H8.out _).mono ?_; rintro e w5 ⟨A5, c5, rfl, HX5, hb5⟩; have cy1 := (hb5.cell (World.block_lt_of_cell? _ _ cy)).trans cy)
        go_upto_region 15 with (go_at_call 9; refine (H9.out _).mono ?_; rintro e w6 ⟨A6, c6, rfl, HX6, hb6⟩)
        have HX7 := Lib.hid (HX5.out.below hb6)
        go_upto_region 17 with (go_at_call 6; refine (HS.out ys2 n2 HN2.out l2 A6 A5 c6 c5 _ HX6.out.1 HX7.out).mono ?_; rintro e w7 ⟨rfl, hb7⟩)
        have HK2 := Lib.hid (fills_keep (HI4.out.f.below (below_on (below_on hb5 hb6) hb7)) A6 n2 c6)
        go_wp2_with (go_at_call 7; refine HK2.out.mono ?_; rintro e w8 ⟨rfl, hk8⟩)
        have hI8 := HI4.out.step (by omega) hb5 hb6 hb7 HX6.out.2 HN2.out (by omega) hk8
        obtain ⟨E8, v8, hI8⟩ := hI8
        exact ⟨⟨k + 1, E8, v8, by omega, by go_num, Lib.hid (by rw [show 2 * (k + 1) = 2 * k + 1 + 1 from by omega]; exact hI8)⟩, by simp [intOf]; omega⟩
      · obtain rfl : k = 3 := by omega
        have HAP : Hid (∀ W, Below wr.heap.size wr W → Calls Tryz.prog 10 #[.pointer (some ⟨w.heap.size, 0, none⟩)] W fun e w' => e = .returned (.bool true) ∧ Below w.heap.size w w') := Lib.hid fun W hW => by
          refine (fills_apart (HI.out.f.below hW) (by rw [HI.out.N]; decide)).mono ?_
          rintro e w' ⟨rfl, hb⟩
          exact ⟨rfl, (HI.out.b.trans (hW.mono HI.out.b.size)).trans (hb.mono (by omega))⟩
        go_wp2_with (first
          | (go_at_call 10; refine (HAP.out _ (Below.refl _ _)).mono ?_; rintro e w1 ⟨rfl, hb1⟩)
          | (go_at_call 11; refine (lives_any _).mono ?_; rintro e w2 ⟨rfl, hb2⟩))
        go_ret
        exact ⟨rfl, below_on hb1 hb2⟩
end Go.Proofs.YtjnmjgpkicbbdaaGreatDoor
