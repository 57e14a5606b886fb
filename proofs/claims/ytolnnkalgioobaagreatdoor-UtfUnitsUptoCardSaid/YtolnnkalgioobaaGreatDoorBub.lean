/- The Book: one more list is kept. -/
import Derived.Test.YtolnnkalgioobaaGreatDoorBua
import Derived.Deep.AppendLies
import Derived.Laws.Rows
import Derived.IntWalk
import Derived.Deep.RegionLaw
namespace Go.Proofs.YtolnnkalgioobaaGreatDoor
open Go.RowKit
set_option maxRecDepth 100000
set_option linter.unusedVariables false
set_option linter.unusedSimpArgs false
set_option linter.unnecessarySimpa false

/-- The Book at block p: its number and its lists. -/
def bookCells (n : Nat) (f : Nat → Value) : Array Value := #[.int .i64 n, f 1, f 2, f 3, f 4, f 5, f 6, f 7, f 8, f 9, f 10, f 11, f 12, f 13, f 14]
def BookAt (W : World) (p n : Nat) (f : Nat → Value) : Prop := W.heap[p]? = some (.cells (bookCells n f) 44 (0, 0))
def upd (f : Nat → Value) (k : Nat) (v : Value) : Nat → Value := fun j => if j = k then v else f j
theorem BookAt.lt {W : World} {p n : Nat} {f : Nat → Value} (h : BookAt W p n f) : p < W.heap.size := by
  rcases Nat.lt_or_ge p W.heap.size with h1 | h1
  · exact h1
  · unfold BookAt at h; rw [Array.getElem?_eq_none h1] at h; cases h
theorem BookAt.cell {W : World} {p n : Nat} {f : Nat → Value} (h : BookAt W p n f) (k : Nat) (h1 : 1 ≤ k) (h2 : k ≤ 14) : W.cell? ⟨p, k, none⟩ = some (f k) := by
  rw [cell_of_row W p k _ 44 (0, 0) h]
  have : k = 1 ∨ k = 2 ∨ k = 3 ∨ k = 4 ∨ k = 5 ∨ k = 6 ∨ k = 7 ∨ k = 8 ∨ k = 9 ∨ k = 10 ∨ k = 11 ∨ k = 12 ∨ k = 13 ∨ k = 14 := by omega
  rcases this with rfl | rfl | rfl | rfl | rfl | rfl | rfl | rfl | rfl | rfl | rfl | rfl | rfl | rfl <;> rfl
theorem BookAt.cell0 {W : World} {p n : Nat} {f : Nat → Value} (h : BookAt W p n f) : W.cell? ⟨p, 0, none⟩ = some (.int .i64 n) := by
  rw [cell_of_row W p 0 _ 44 (0, 0) h]; rfl
theorem BookAt.free {W : World} {p n : Nat} {f : Nat → Value} (h : BookAt W p n f) (k : Nat) : W.frozen? ⟨p, k, none⟩ = false := Lib.frozen_of_heap h _
theorem BookAt.kept {S : Nat → Prop} {W W1 : World} {p n : Nat} {f : Nat → Value} (h : BookAt W p n f) (hk : Keeps S W W1) (hp : ¬ S p) : BookAt W1 p n f := (hk.block p h.lt hp).trans h
theorem BookAt.number {W : World} {p n : Nat} {f : Nat → Value} (h : BookAt W p n f) (m : Nat) : BookAt (W.setCell ⟨p, 0, none⟩ (.int .i64 m)) p m f :=
  (heap_setCell_same W p 0 _ 44 (.int .i64 m) h).trans rfl
theorem BookAt.put {W : World} {p n : Nat} {f : Nat → Value} (h : BookAt W p n f) (k : Nat) (v : Value) (h1 : 1 ≤ k) (h2 : k ≤ 14) : BookAt (W.setCell ⟨p, k, none⟩ v) p n (upd f k v) := by
  refine (heap_setCell_same W p k _ 44 v h).trans ?_
  have : k = 1 ∨ k = 2 ∨ k = 3 ∨ k = 4 ∨ k = 5 ∨ k = 6 ∨ k = 7 ∨ k = 8 ∨ k = 9 ∨ k = 10 ∨ k = 11 ∨ k = 12 ∨ k = 13 ∨ k = 14 := by omega
  rcases this with rfl | rfl | rfl | rfl | rfl | rfl | rfl | rfl | rfl | rfl | rfl | rfl | rfl | rfl <;> rfl

theorem info_held : (Tryz.prog.info? 118).map (fun i => (i.zero, i.size, i.bytes)) = some (some (.agg #[.slice none 0 0, .slice none 0 0, .int .i64 0]), 3, 56) := by kernel_rfl
/-- What a Book is that keeps lists of one kind. -/
structure KeepPost (p n N B : Nat) (f : Nat → Value) (cs : List Value) (lv : Value) (w w' : World) : Prop where
  ex : ∃ g cap, BookAt w' p (n + 1) (upd f 7 (.slice (some ⟨g, 0, none⟩) (N + 1) cap)) ∧ w'.ownsRow B 118 3 (.slice (some ⟨g, 0, none⟩) (N + 1) cap) (N + 1) (cs ++ [lv, .slice none 0 0, .int .i64 ((n + 1 : Nat) : Int)]) ∧
    ((f 7).ownBlock = some g ∨ w.heap.size ≤ g)
  k : Keeps (fun k => k = p ∨ some k = (f 7).ownBlock) w w'
theorem news3 (w : World) (cs : Array Value) (t : TypeId) : ∀ j x, cs.toList[j]? = some x → (w.alloc (.cells cs t)).cell? ((⟨w.heap.size, 0, none⟩ : Addr).add j) = some x :=
  World.news_of_block (heap_alloc_new w _)
theorem keep_any (p n N B : Nat) (f : Nat → Value) (cs : List Value) (A : Option Addr) (len cap : Nat) (w : World) (hb : BookAt w p n f) (hB : B ≤ w.heap.size) (hrow : w.ownsRow B 118 3 (f 7) N cs)
    (hne : (f 7).ownBlock ≠ some p) (hN : N ≤ 1000000) (hn : n ≤ 1000000) :
    Calls Tryz.prog 84 #[.pointer (some ⟨p, 0, none⟩), .slice A len cap] w fun e w' => e = .returned (.tuple #[]) ∧ KeepPost p n N B f cs (.slice A len cap) w w' := by
  obtain ⟨i0, hi, hzz⟩ := Option.map_eq_some_iff.1 info_held
  simp only [Prod.mk.injEq] at hzz
  obtain ⟨hz0, hz1, hz2⟩ := hzz
  have c0 := hb.cell0
  have q0 := hb.free 0
  have HB := Lib.hid hb
  have HR := Lib.hid hrow
  have HN := Lib.hid hne
  clear hb hrow hne
  go_enter Tryz.func84, Tryz.ntmps84
  go_upto_region 1 with fail
  have HB1 : Hid (BookAt (w.setCell ⟨p, 0, none⟩ (.int .i64 ((n : Int) + 1))) p (n + 1) f) := Lib.hid (HB.out.number (n + 1))
  have HK1 : Hid (Keeps (fun k => k = p ∨ some k = (f 7).ownBlock) w (w.setCell ⟨p, 0, none⟩ (.int .i64 ((n : Int) + 1)))) := Lib.hid ((Keeps.refl _ w).set p 0 _ (.inl (.inl rfl)))
  have HR1 : Hid ((w.setCell ⟨p, 0, none⟩ (.int .i64 ((n : Int) + 1))).ownsRow B 118 3 (f 7) N cs) := Lib.hid (HR.out.kept (row := some p) ⟨rfl, rfl, rfl, by simp, fun k hk hne => Below.heap_setCell _ _ _ _ (by rintro rfl; exact hne rfl)⟩ (.inr HN.out))
  show Code.wp _ _ _ _ (w.setCell ⟨p, 0, none⟩ (.int .i64 ((n : Int) + 1)))
  generalize w.setCell ⟨p, 0, none⟩ (.int .i64 ((n : Int) + 1)) = W at *
  have d0 := HB1.out.cell0
  have d4 := HB1.out.cell 7 (by omega) (by omega)
  have f4 := HB1.out.free 7
  clear c0 q0
  have hf4 : Hid (∀ W2, BookAt W2 p (n + 1) f → W2.cell? ⟨p, 7, none⟩ = some (f 7)) := Lib.hid fun _ h => h.cell 7 (by omega) (by omega)
  have HA : Hid (∀ W2 g cap1, W2.ownsRow B 118 3 (.slice (some ⟨g, 0, none⟩) (N + 1) cap1) (N + 1) (cs ++ [.slice A len cap, .slice none 0 0, .int .i64 ((n + 1 : Nat) : Int)]) → (W.drew.alloc (.cells #[.slice A len cap, .slice none 0 0, .int .i64 ((n + 1 : Nat) : Int)] 118)).grownBy W2 (f 7).ownBlock → ((f 7).ownBlock = some g ∨ g = W.heap.size + 1) →
      BookAt W2 p (n + 1) f ∧ KeepPost p n N B f cs (.slice A len cap) w (W2.setCell ⟨p, 7, none⟩ (.slice (some ⟨g, 0, none⟩) (N + 1) cap1))) := Lib.hid fun W2 g cap1 hown hgr hat => by
    have hsz := HK1.out.size
    have hplt := HB1.out.lt
    have hk2 : Keeps (fun k => k = p ∨ some k = (f 7).ownBlock) w W2 := (HK1.out.below (((Below.refl W.heap.size W).drew).alloc (Nat.le_refl _) _)).grown hgr (fun g hg => .inl (.inr hg.symm))
    have hb2 : BookAt W2 p (n + 1) f := (hgr.block p (by simp; omega) (Ne.symm HN.out)).trans ((Below.heap_alloc W.drew _ p hplt).trans HB1.out)
    have hgp : g ≠ p := by rintro rfl; rcases hat with h | h; exact HN.out h; omega
    refine ⟨hb2, ⟨⟨g, cap1, hb2.put 7 _ (by omega) (by omega), hown.kept (row := some p) ⟨rfl, rfl, rfl, by simp, fun k hk hne => Below.heap_setCell _ _ _ _ (by rintro rfl; exact hne rfl)⟩ (.inr (by simp [Value.ownBlock]; exact hgp)), ?_⟩, hk2.set p 7 _ (.inl (.inl rfl))⟩⟩
    rcases hat with h | h
    · exact .inl h
    · exact .inr (by omega)
  have hBW : B ≤ W.heap.size := by have := HK1.out.size; omega
  have d4a : (W.alloc (.cells #[.slice A len cap, .slice none 0 0, .int .i64 ((n : Int) + 1)] 118)).cell? ⟨p, 7, none⟩ = some (f 7) := (World.cell?_alloc_lt W _ ⟨p, 7, none⟩ HB1.out.lt).trans d4
  clear HB HR HB1 HK1
  generalize hG : f 7 = v at *
  clear hG
  go_region_law (refine step_append_lies _ rfl (.tmp 15) (.tmp 22) 35 rfl B 118 i0 (.agg #[.slice none 0 0, .slice none 0 0, .int .i64 0]) 3 56 Tryz.underlying35 hi hz0 hz1 hz2 rfl (by decide) v N cs (by simp [Act.eval, Act.put]) (World.ownsRow.alloc (World.ownsRow.drew HR1.out) _) ⟨W.heap.size, 0, none⟩ 1 1 [.slice A len cap, .slice none 0 0, .int .i64 ((n + 1 : Nat) : Int)] (by simp [Act.eval, Act.put]) rfl (news3 _ _ _) (by intro q hq; simp at hq; rcases hq with rfl | rfl | rfl <;> rfl) (by decide) (by simp only [maxLen]; omega) (by omega) (by simp; omega) (W.heap.size + 1) (by simp) ?_; intro g cap1 w4 hown hgr hat hlt4; have hA := Lib.hid (HA.out w4 g cap1 hown hgr hat); have xb4 := hf4.out _ hA.out.1; have xf4 := hA.out.1.free 7; clear hown hgr hat hlt4)
  all_goals (
    first | go_wp2 | (go_goals; fail) | skip
    go_end0
    exact ⟨rfl, hA.out.2⟩)
theorem keeps_any (p n N B : Nat) (f : Nat → Value) (cs : List Value) (A : Option Addr) (len cap : Nat) (w : World) (hb : BookAt w p n f) (hB : B ≤ w.heap.size) (hrow : w.ownsRow B 118 3 (f 7) N cs)
    (hne : (f 7).ownBlock ≠ some p) (hN : N ≤ 1000000) (hn : n ≤ 1000000) :
    Calls Tryz.prog 22 #[.pointer (some ⟨p, 0, none⟩), .slice A len cap] w fun e w' => e = .returned (.tuple #[]) ∧ KeepPost p n N B f cs (.slice A len cap) w w' := by
  have h := keep_any p n N B f cs A len cap w hb hB hrow hne hN hn
  go_enter Tryz.func22, Tryz.ntmps22
  go_wp2_with (go_at_call 84; refine h.mono ?_; rintro e w' ⟨rfl, hp⟩)
  go_end0
  exact ⟨rfl, hp⟩
end Go.Proofs.YtolnnkalgioobaaGreatDoor
