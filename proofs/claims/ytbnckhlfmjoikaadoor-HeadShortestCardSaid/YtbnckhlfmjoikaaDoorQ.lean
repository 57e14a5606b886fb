/- head.Read. -/
import Derived.Test.YtbnckhlfmjoikaaDoorP
import Derived.Lib.Builder
namespace Go.Proofs.YtbnckhlfmjoikaaDoor
open Go.RowKit
set_option maxRecDepth 100000
set_option linter.unusedVariables false
set_option linter.unusedSimpArgs false
set_option linter.unnecessarySimpa false

/-- The byte at a place; -1: the text has ended. -/
def at1 (s : ByteArray) (k : Nat) : Int := if h : k < s.size then ((s[k]'h).toNat : Int) else -1
theorem at1_range (s : ByteArray) (k : Nat) : -1 ≤ at1 s k ∧ at1 s k ≤ 255 := by
  unfold at1
  split
  · rename_i h
    have := (s[k]'h).toNat_lt
    omega
  · omega
theorem at1_in (s : ByteArray) (k : Nat) : 0 ≤ at1 s k ↔ k < s.size := by
  unfold at1
  split
  · rename_i h
    constructor
    · exact fun _ => h
    · intro _; omega
  · rename_i h
    constructor
    · intro h2; omega
    · intro h2; exact absurd h2 h
theorem idx_run (s : ByteArray) (k : Nat) (h : k < s.size) (W : World) : (Instr.index 9 (.string s) (.int .i64 (k : Int))).run Tryd.prog W = .ok (.int .u8 (at1 s k)) W := by
  rw [run_index_string W 9 s .i64 k Tryd.underlying9]
  unfold at1
  simp [h]

theorem u8_tab (P : Int → Bool) (h : ∀ n : Fin 256, P (n.val : Int) = true) (x : Int) (h0 : 0 ≤ x) (h1 : x ≤ 255) : P x = true := by
  obtain ⟨n, rfl⟩ := Int.eq_ofNat_of_zero_le h0
  exact h ⟨n, by omega⟩
theorem and31 (x : Int) (h0 : 0 ≤ x) (h1 : x ≤ 255) : bits BinOp.and .u8 x 31 = x % 32 := by
  have := u8_tab (fun x => decide (bits BinOp.and .u8 x 31 = x % 32)) (by decide) x h0 h1
  simpa using this

theorem size29 : (Tryd.prog.info? 29).map (·.size) = some 4 := by kernel_rfl
theorem there_blk {w : World} {b : Nat} {cs : Array Value} {t : TypeId} (h : w.heap[b]? = some (.cells cs t (0, 0))) (n : Nat) (hn : n = cs.size) : w.there b 0 n := by
  intro j hj
  refine ⟨?_, Lib.frozen_of_heap h _⟩
  rw [Lib.cell_of_heap h, Array.getElem?_eq_getElem (show 0 + j < cs.size by omega)]
  rfl
theorem below_setCells {B : Nat} {w0 : World} : ∀ (vs : List Value) (g o : Nat) (w : World), Below B w0 w → B ≤ g → Below B w0 (w.setCells g o vs)
  | [], _, _, _, h, _ => h
  | v :: r, g, o, w, h, hg => by
    rw [World.setCells]
    exact below_setCells r g (o + 1) _ (h.setCell (p := ⟨g, o, none⟩) hg v) hg
theorem cell_setCells_other : ∀ (vs : List Value) (g o : Nat) (w : World) (q : Addr), q.block ≠ g → (w.setCells g o vs).cell? q = w.cell? q
  | [], _, _, _, _, _ => rfl
  | v :: r, g, o, w, q, h => by
    rw [World.setCells, cell_setCells_other r g (o + 1) _ q h]
    exact World.cell?_setCell_other w ⟨g, o, none⟩ q v (fun e => h (by rw [← e]))
theorem IsF.setCells {a : Nat → Addr} {k p : Nat} {at_ : Int} {path : ByteArray} {w : World} (h : IsF a k at_ path p w) (vs : List Value) (g o : Nat) (hg : g < p) : IsF a k at_ path p (w.setCells g o vs) :=
  ⟨(cell_setCells_other vs g o w ⟨p, 0, none⟩ (by simp; omega)).trans h.c0, (cell_setCells_other vs g o w ⟨p, 1, none⟩ (by simp; omega)).trans h.c1, (cell_setCells_other vs g o w ⟨p, 2, none⟩ (by simp; omega)).trans h.c2⟩
abbrev zH : Array Value := #[.int .u8 0, .int .u8 0, .int .u64 0, .int .i64 0]
abbrev zeroH : Value := .agg zH
abbrev hW (w : World) : World := w.alloc (.cells zH 29)
theorem there_hw {w W : World} {T : TypeId} {cs : Array Value} (h : Below (w.alloc (.cells cs T)).heap.size (w.alloc (.cells cs T)) W) (vs : Array Value) (hn : vs.size = cs.size) : W.there w.heap.size 0 vs.size :=
  there_blk (cs := cs) (t := T) ((h.block _ (by rw [World.size_alloc]; omega)).trans Array.getElem?_push_size) _ hn
theorem below_hw {w W : World} {o : Obj} (h : Below (w.alloc o).heap.size (w.alloc o) W) : Below w.heap.size w W := ((Below.refl _ _).alloc (Nat.le_refl _) _).trans (h.mono (by rw [World.size_alloc]; omega))
theorem one4 (a b c d : Int) : (#[.int .u8 a, .int .u8 b, .int .u64 c, .int .i64 d] : Array Value).all (·.oneCell') = true := all_oneCell_toArray (cs := [.int .u8 a, .int .u8 b, .int .u64 c, .int .i64 d]) (fun v hv => by simp only [List.mem_cons, List.not_mem_nil, or_false] at hv; rcases hv with rfl | rfl | rfl | rfl <;> rfl)
theorem load4 (w : World) (g : Nat) (a b c d : Int) (h : w.there g 0 4) : (loadVar 29 ⟨g, 0, none⟩).run Tryd.prog (w.setCells g 0 [.int .u8 a, .int .u8 b, .int .u64 c, .int .i64 d]) = .ok (.agg #[.int .u8 a, .int .u8 b, .int .u64 c, .int .i64 d]) (w.setCells g 0 [.int .u8 a, .int .u8 b, .int .u64 c, .int .i64 d]) :=
  run_loadVar_mid (P := Tryd.prog) (w.setCells g 0 [.int .u8 a, .int .u8 b, .int .u64 c, .int .i64 d]) g 0 29 [.int .u8 a, .int .u8 b, .int .u64 c, .int .i64 d] _ (World.rangeAt_setCells_same _ _ _ _ h) Tryd.underlying29 rfl size29

theorem load_at (w : World) (g : Nat) (a b c d : Int) (h : w.heap[g]? = some (.cells #[.int .u8 a, .int .u8 b, .int .u64 c, .int .i64 d] 29 (0, 0))) : (loadVar 29 ⟨g, 0, none⟩).run Tryd.prog w = .ok (.agg #[.int .u8 a, .int .u8 b, .int .u64 c, .int .i64 d]) w :=
  run_loadVar_mid (P := Tryd.prog) w g 0 29 [.int .u8 a, .int .u8 b, .int .u64 c, .int .i64 d] _ (fun j v hv => by rw [Lib.cell_of_heap h, Nat.zero_add, List.getElem?_toArray]; exact hv) Tryd.underlying29 rfl size29

theorem read_arg (a : Nat → Addr) (s : ByteArray) (n : Int) (w : World) (hE : Errs a w) (hs : s.size ≤ 140737488351232) (hn : n < 0 ∨ (s.size : Int) < n) :
    Calls Tryd.prog 14 #[.string s, .int .i64 n] w fun e w' => e = .returned (.tuple #[zeroH, .iface 99 (.pointer (some (a 1)))]) ∧ Below w.heap.size w w' := by
  have g1 : w.cell? ⟨1, 0, none⟩ = some (.iface 99 (.pointer (some (a 1)))) := hE.g 1 (by omega) (by omega)
  have hl := World.block_lt_of_cell? w _ g1
  have g2 : (w.alloc (.cells #[.int .u8 0, .int .u8 0, .int .u64 0, .int .i64 0] 29)).cell? ⟨1, 0, none⟩ = some (.iface 99 (.pointer (some (a 1)))) := (World.cell?_alloc_lt _ _ ⟨1, 0, none⟩ hl).trans g1
  clear hE
  rcases hn with hn | hn
  · go_enter Tryd.func14, Tryd.ntmps14
    go_wp2
    go_region
    go_wp2
    have hLd := load_at (w.alloc (.cells zH 29)).drew w.heap.size 0 0 0 0 (Array.getElem?_push_size (xs := w.heap))
    refine bodyPost_ret (v := .tuple #[zeroH, .iface 99 (.pointer (some (a 1)))]) ?_ rfl ⟨rfl, (((Below.refl _ _).alloc (Nat.le_refl _) _)).drew⟩
    simp [results, Tryd.results14, hLd, asAddr, Act.put]
  · go_enter Tryd.func14, Tryd.ntmps14
    go_wp2
    go_region
    go_wp2
    have hLd := load_at (w.alloc (.cells zH 29)).drew w.heap.size 0 0 0 0 (Array.getElem?_push_size (xs := w.heap))
    refine bodyPost_ret (v := .tuple #[zeroH, .iface 99 (.pointer (some (a 1)))]) ?_ rfl ⟨rfl, (((Below.refl _ _).alloc (Nat.le_refl _) _)).drew⟩
    simp [results, Tryd.results14, hLd, asAddr, Act.put]

theorem read_end (a : Nat → Addr) (s : ByteArray) (n : Nat) (w : World) (hE : Errs a w) (hs : s.size ≤ 140737488351232) (hn : s.size = n) :
    Calls Tryd.prog 14 #[.string s, .int .i64 n] w fun e w' => ∃ p, e = .returned (.tuple #[zeroH, .iface 62 (.pointer (some ⟨p, 0, none⟩))]) ∧ IsF a 3 n ⟨#[]⟩ p w' ∧ Below w.heap.size w w' := by
  have hN : Hid (∀ W : World, Below w.heap.size w W → Calls Tryd.prog 25 #[.int .i64 3, .int .i64 n, .string ⟨#[]⟩] W fun e w' => ∃ p, W.heap.size ≤ p ∧ e = .returned (.iface 62 (.pointer (some ⟨p, 0, none⟩))) ∧ IsF a 3 n ⟨#[]⟩ p w' ∧ Below W.heap.size W w') := Lib.hid fun W hb =>
    new_any a 3 n ⟨#[]⟩ W (hE.below hb) (by omega) (by omega)
  have HZ : Hid ((Tryd.prog.info? 29).map (·.size) = some zH.size) := Lib.hid size29
  have HA : Hid (zH.all (·.oneCell') = true) := Lib.hid (one4 0 0 0 0)
  clear hE
  have h0 : ¬ (n : Int) < 0 := by omega
  go_enter Tryd.func14, Tryd.ntmps14
  go_upto_region 4 with fail
  go_wp2_with (first
    | (go_at_call 25; refine (hN.out _ ((Below.refl _ _).alloc (Nat.le_refl _) _)).mono ?_; rintro e w1 ⟨p, hp, rfl, hF, hb⟩; have HT := Lib.hid (there_hw hb zH rfl))
    | (with_reducible refine wpList_store_mid rfl 29 (.tmp 4) (.tmp 26) rfl w.heap.size 0 zH rfl rfl HT.out HZ.out HA.out ?_))
  have hLd := load4 w1 w.heap.size 0 0 0 0 HT.out
  refine bodyPost_ret (v := .tuple #[zeroH, .iface 62 (.pointer (some ⟨p, 0, none⟩))]) ?_ rfl ⟨p, rfl, hF.setCells _ _ _ (by rw [World.size_alloc] at hp; omega), below_setCells _ _ _ _ (below_hw hb) (Nat.le_refl _)⟩
  simp [results, Tryd.results14, hLd, asAddr, Act.put]
end Go.Proofs.YtbnckhlfmjoikaaDoor
