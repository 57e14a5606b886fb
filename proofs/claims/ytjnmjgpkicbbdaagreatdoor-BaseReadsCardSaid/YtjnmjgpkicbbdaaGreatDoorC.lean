/- What base.Hex answers: two digits a byte, for any list of bytes. -/
import Derived.Test.YtjnmjgpkicbbdaaGreatDoorB
import Derived.Test.YtjnmjgpkicbbdaaGreatDoorShelf
import Derived.Laws.BitsLemmas
namespace Go.Proofs.YtjnmjgpkicbbdaaGreatDoor
open Go.RowKit
set_option maxRecDepth 100000
set_option linter.unusedVariables false

theorem nums_cells (xs : List Int) (h : Bytes xs) : numsK .u8 xs = Lib.byteCells (xs.map fun n => UInt8.ofNat n.toNat) := by
  unfold numsK Lib.byteCells
  rw [List.map_map]
  apply List.map_congr_left
  intro x hx
  have := h x hx
  simp
  omega

theorem bld_string (B b : Nat) (ys : List Int) (w : World) (h : Lib.IsBuilder 150 5 B b (numsK .u8 ys) w) (hy : Bytes ys) (hB : B ≤ w.heap.size) :
    Calls Tryz.prog 94 #[.pointer (some ⟨b, 0, none⟩)] w fun e w' => e = .returned (.string (strOfNums ys)) ∧ Below B w w' := by
  rw [nums_cells ys hy] at h
  exact (Tryz.Builder_String_any B b _ w h hB).mono fun _ _ h => h

def dg (d : Int) : Int := if d < 10 then 48 + d else 87 + d
def hexL : List Int → List Int
  | [] => []
  | x :: xs => dg (x / 16) :: dg (x % 16) :: hexL xs

theorem dg_range (d : Int) (h0 : 0 ≤ d) (h1 : d < 16) : 0 ≤ dg d ∧ dg d ≤ 255 := by unfold dg; split <;> omega

theorem hexL_bytes : ∀ xs, Bytes xs → Bytes (hexL xs)
  | [], _ => fun x hx => by simp [hexL] at hx
  | x :: xs, h => fun y hy => by
    have hx := h x (by simp)
    simp only [hexL, List.mem_cons] at hy
    rcases hy with rfl | rfl | hy
    · exact dg_range _ (by omega) (by omega)
    · exact dg_range _ (by omega) (by omega)
    · exact hexL_bytes xs (fun z hz => h z (by simp [hz])) y hy

theorem hexL_snoc : ∀ xs (x : Int), hexL (xs ++ [x]) = hexL xs ++ [dg (x / 16)] ++ [dg (x % 16)]
  | [], x => rfl
  | y :: ys, x => by simp [hexL, hexL_snoc ys x]

theorem hexL_len : ∀ xs, (hexL xs).length = 2 * xs.length
  | [] => rfl
  | y :: ys => by simp [hexL, hexL_len ys]; omega

def digitsS : ByteArray := ⟨#[48, 49, 50, 51, 52, 53, 54, 55, 56, 57, 97, 98, 99, 100, 101, 102]⟩

theorem index_at (s : ByteArray) (f : Int → Int) (n : Nat) (hs : s.size = n) (hf : ∀ (i : Nat) (h : i < s.size), ((s[i]'h).toNat : Int) = f i) (k : IntKind) (d : Int) (h0 : 0 ≤ d) (h1 : d < n) (w : World) :
    (Instr.index 9 (.string s) (.int k d)).run Tryz.prog w = .ok (.int .u8 (f d)) w := by
  rw [run_index_string w 9 s k d Tryz.underlying9]
  obtain ⟨m, rfl⟩ := Int.eq_ofNat_of_zero_le h0
  have hm : m < s.size := by omega
  have := hf m hm
  simp [hm, this]

theorem digits_ok : ∀ (i : Nat) (h : i < digitsS.size), ((digitsS[i]'h).toNat : Int) = dg i := by
  have : ∀ i : Fin digitsS.size, ((digitsS[i.val]'i.isLt).toNat : Int) = dg i.val := by decide
  exact fun i h => this ⟨i, h⟩

theorem dig_at (d : Int) (h0 : 0 ≤ d) (h1 : d < 16) (w : World) : (Instr.index 9 (.string ⟨#[48, 49, 50, 51, 52, 53, 54, 55, 56, 57, 97, 98, 99, 100, 101, 102]⟩) (.int .u8 d)).run Tryz.prog w = .ok (.int .u8 (dg d)) w :=
  index_at digitsS dg 16 rfl digits_ok .u8 d h0 h1 w

theorem hex_nil (A : Option Addr) (c : Nat) (w : World) :
    Calls Tryz.prog 60 #[.slice A 0 c] w fun e w' => e = .returned (.string (strOfNums [])) ∧ Below w.heap.size w w' := by
  have hB := bld_new 150 5 w
  go_enter Tryz.func60, Tryz.ntmps60
  go_wp2
  refine wp_loop_rounds 1 ?_
  rw [rounds_succ]
  go_wp2_with (go_at_call 94; refine (bld_string _ _ [] _ hB (fun _ h => by cases h) (by simp)).mono ?_; rintro e w1 ⟨rfl, hb1⟩)
  go_ret
  exact ⟨rfl, ((Below.refl _ _).alloc (Nat.le_refl _) _).trans hb1⟩

theorem hex_row (b off c : Nat) (xs : List Int) (w : World) (hx : Bytes xs) (hn : xs.length ≤ 70368744177664) (hc : ∀ j, j < xs.length → w.cell? ⟨b, off + j, none⟩ = some (.int .u8 (xs.getD j 0))) (hlt : b < w.heap.size) :
    Calls Tryz.prog 60 #[.slice (some ⟨b, off, none⟩) xs.length c] w fun e w' => e = .returned (.string (strOfNums (hexL xs))) ∧ Below w.heap.size w w' := by
  have hB := Lib.hid (bld_new 150 5 w)
  have hC := Lib.hid hc
  clear hc
  have HX := Lib.hid hx
  clear hx
  go_enter Tryz.func60, Tryz.ntmps60
  go_wp2
  go_loopw [5, 8] (fun _ i W => ∃ k : Nat, k ≤ xs.length ∧ i = .int .i64 k ∧ Lib.IsBuilder 150 5 w.heap.size w.heap.size (numsK .u8 (hexL (xs.take k))) W ∧ Below w.heap.size w W) (fun _ i _ => xs.length - (intOf i).toNat)
  case atStart => exact ⟨0, by omega, rfl, by simpa [hexL, numsK] using hB.out, (Below.refl _ _).alloc (Nat.le_refl _) _⟩
  case round =>
    obtain ⟨k, hk, rfl, hI, hb⟩ := hrel
    by_cases hlt' : k < xs.length
    · have hcell : wr.cell? ⟨b, off + k, none⟩ = some (.int .u8 (xs.getD k 0)) := (hb.cell (p := ⟨b, off + k, none⟩) hlt).trans (hC.out k hlt')
      obtain ⟨x, hxx⟩ : ∃ x, xs.getD k 0 = x := ⟨_, rfl⟩
      have hxr : 0 ≤ x ∧ x ≤ 255 := by
        rw [← hxx, List.getD_eq_getElem?_getD, List.getElem?_eq_getElem hlt']
        exact HX.out _ (List.getElem_mem _)
      obtain ⟨hx0, hx1⟩ := hxr
      have hT := Lib.hid (take_snoc xs k hlt')
      rw [hxx] at hcell
      have HXX := Lib.hid hxx
      clear hxx
      have hd1 := dig_at (x / 16) (by omega) (by omega)
      have hd2 := dig_at (x % 16) (by omega) (by omega)
      have hm : bits BinOp.and .u8 x 15 = x % 16 := u8_and15 x hx0 (by omega)
      have hl := hexL_len (xs.take k)
      have hlen : (numsK .u8 (hexL (xs.take k))).length ≤ 140737488355326 := by rw [numsK_length, hl, List.length_take]; omega
      have hlen2 : (numsK .u8 (hexL (xs.take k)) ++ [Value.int .u8 (dg (x / 16))]).length ≤ 140737488355327 := by rw [List.length_append]; simp; omega
      clear hl
      have hbs := hb.size
      go_wp2_with fail
      refine (bld_writeByte w.heap.size w.heap.size _ (dg (x / 16)) _ hI (by omega) hbs).mono ?_
      rintro e w1 ⟨rfl, hI1, hb1⟩
      have hbs1 := hb1.size
      go_wp2_with fail
      refine (bld_writeByte w.heap.size w.heap.size _ (dg (x % 16)) _ hI1 (by omega) (by omega)).mono ?_
      rintro e w2 ⟨rfl, hI2, hb2⟩
      go_wp2
      exact ⟨⟨k + 1, by omega, rfl, by rw [hT.out, HXX.out, hexL_snoc, numsK_append, numsK_append]; exact hI2, (hb.trans hb1).trans hb2⟩, by simp [intOf]; omega⟩
    · have hk' : xs.take k = xs := List.take_of_length_le (by omega)
      rw [hk'] at hI
      have hbs := hb.size
      go_wp2_with (go_at_call 94; refine (bld_string _ _ _ _ hI (hexL_bytes xs HX.out) hbs).mono ?_; rintro e w1 ⟨rfl, hb1⟩)
      go_ret
      exact ⟨rfl, hb.trans hb1⟩

theorem hex_any (A : Option Addr) (c : Nat) (xs : List Int) (w : World) (hx : Bytes xs) (hn : xs.length ≤ 70368744177664) (hr : RK w .u8 A xs) :
    Calls Tryz.prog 60 #[.slice A xs.length c] w fun e w' => e = .returned (.string (strOfNums (hexL xs))) ∧ Below w.heap.size w w' := by
  by_cases h0 : xs = []
  · subst h0
    exact hex_nil A c w
  · rcases hr with h | ⟨b, off, rfl, hc⟩
    · exact absurd h h0
    · have hpos : 0 < xs.length := List.length_pos_iff.2 h0
      exact hex_row b off c xs w hx hn hc (World.block_lt_of_cell? w _ (hc 0 hpos))
end Go.Proofs.YtjnmjgpkicbbdaaGreatDoor
