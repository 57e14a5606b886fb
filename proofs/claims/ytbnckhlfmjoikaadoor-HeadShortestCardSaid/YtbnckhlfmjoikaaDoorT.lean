/- head.Read: a head without a length. -/
import Derived.Test.YtbnckhlfmjoikaaDoorS
import Derived.Test.YtbnckhlfmjoikaaDoorG
namespace Go.Proofs.YtbnckhlfmjoikaaDoor
open Go.RowKit
set_option maxRecDepth 100000
set_option linter.unusedVariables false
set_option linter.unusedSimpArgs false
set_option linter.unnecessarySimpa false

set_option maxHeartbeats 2000000 in
theorem read_open (s : ByteArray) (n : Nat) (c m : Int) (w : World) (hS : w.cell? ⟨0, 7, none⟩ = some (.int .i64 0)) (hs : s.size ≤ 140737488351232) (hn : n < s.size) (hc : at1 s n = c) (hm : c / 32 = m) (hi : c % 32 = 31)
    (ho : (decide (2 ≤ m) && decide (m ≤ 5) || decide (m = 7)) = true) :
    Calls Tryd.prog 14 #[.string s, .int .i64 n] w fun e w' => e = .returned (.tuple #[.agg #[.int .u8 m, .int .u8 31, .int .u64 0, .int .i64 1], .nilIface]) ∧ Below w.heap.size w w' := by
  have hl := World.block_lt_of_cell? w _ hS
  have hix := fun W => idx_run s n hn W
  have hr1 : c ≤ 255 := by have := at1_range s n; omega
  have hr0 : 0 ≤ c := by have := (at1_in s n).2 hn; omega
  rw [hc] at hix
  have ha : bits BinOp.and .u8 c 31 = 31 := by rw [and31 c hr0 hr1, hi]
  have hm0 : 0 ≤ m := by omega
  have hm1 : m ≤ 7 := by omega
  have h0 : ¬ (n : Int) < 0 := by omega
  have hlt : (n : Int) < (s.size : Int) := by omega
  have hsh2 : ¬ (s.size : Int) - (n : Int) - 1 < 0 := by omega
  have hop := fun W => opens_any m W hm0 hm1
  simp only [ho] at hop
  have hsl := fun W => slice_run s (n + 1) 0 (by omega) W
  have hn1 : ((n + 1 : Nat) : Int) = (n : Int) + 1 := by omega
  rw [hn1] at hsl
  simp only [Int.ofNat_zero, Int.natCast_zero, Int.add_zero] at hsl
  have hcz := cut_size s (n + 1) 0 (by omega)
  generalize hX : s.extract (n + 1) (n + 1 + 0) = X at hsl hcz
  have hcv := Lib.run_convert_string_bytes (P := Tryd.prog) (hdW w m 31) 9 57 5 X Tryd.underlying9 Tryd.underlying57 Tryd.underlying5
  rw [hcz] at hcv
  clear hX hc hn hi ho
  go_enter Tryd.func14, Tryd.ntmps14
  go_wp2
  go_region
  go_upto_region 9 with fail
  have hS0 : (hdW w m 31).cell? ⟨0, 7, none⟩ = some (.int .i64 0) := ((below_hd w m _).cell (p := ⟨0, 7, none⟩) hl).trans hS
  have L1 : Lies (hdW w m 31) w.heap.size zH 29 := blk_hd w m _
  have L2 : Lies (hdW w m 31) (w.heap.size + 1) #[.int .u8 m, .int .u8 31, .int .u64 0, .int .i64 1] 29 := by
    show ((w.alloc (.cells zH 29)).alloc (.cells #[.int .u8 m, .int .u8 31, .int .u64 0, .int .i64 1] 29)).heap[w.heap.size + 1]? = _
    have := Array.getElem?_push_size (xs := (w.alloc (.cells zH 29)).heap) (x := Obj.cells #[.int .u8 m, .int .u8 31, .int .u64 0, .int .i64 1] 29)
    rwa [World.size_alloc] at this
  have hz0 := size_hd w m 31
  have hB := below_hd w m 31
  show Code.wp _ _ _ _ (hdW w m 31)
  generalize hdW w m 31 = W0 at hcv hS0 L1 L2 hz0 hB ⊢
  have k0 : W0.cell? ⟨w.heap.size + 1, 0, none⟩ = some (.int .u8 m) := L2.cell 0
  have k1 : W0.cell? ⟨w.heap.size + 1, 1, none⟩ = some (.int .u8 31) := L2.cell 1
  clear hS hix ha
  go_upto_region 14 with (go_at_call 26; refine (hop _).mono ?_; rintro e w1 ⟨rfl, rfl⟩)
  have hb1 : Below W0.heap.size W0 (Lib.bytesWorld W0 5 X) := ⟨rfl, rfl, rfl, by rw [Lib.bytesWorld_size]; omega, fun k hk => Lib.bytesWorld_at_old W0 5 X k hk⟩
  have hz1 := Lib.bytesWorld_size W0 5 X
  rw [hz0] at hcv hz1
  have L1' := L1.below hb1 (by omega)
  have L2' := L2.below hb1 (by omega)
  have hB' := hB.trans (hb1.mono hB.size)
  generalize Lib.bytesWorld W0 5 X = wr at hcv hz1 L1' L2' hB'
  generalize grownCap W0 0 0 5 = cap at hcv
  have c0 : wr.cell? ⟨w.heap.size + 1, 0, none⟩ = some (.int .u8 m) := L2'.cell 0
  have c1 : wr.cell? ⟨w.heap.size + 1, 1, none⟩ = some (.int .u8 31) := L2'.cell 1
  have c2 : wr.cell? ⟨w.heap.size + 1, 2, none⟩ = some (.int .u64 0) := L2'.cell 2
  have c3 : wr.cell? ⟨w.heap.size + 1, 3, none⟩ = some (.int .i64 1) := L2'.cell 3
  have f3 : wr.frozen? ⟨w.heap.size + 1, 3, none⟩ = false := L2'.frozen 3
  have M2 : Lies (wr.setCell ⟨w.heap.size + 1, 3, none⟩ (.int .i64 1)) (w.heap.size + 1) #[.int .u8 m, .int .u8 31, .int .u64 0, .int .i64 1] 29 := L2'.set 3 _
  have M1 : Lies (wr.setCell ⟨w.heap.size + 1, 3, none⟩ (.int .i64 1)) w.heap.size zH 29 := L1'.other (by omega) _
  have hld := load_at _ _ _ _ _ _ M2
  have hBz : Below w.heap.size w (wr.setCell ⟨w.heap.size + 1, 3, none⟩ (.int .i64 1)) := hB'.setCell (by simp) _
  have HT : Hid ((wr.setCell ⟨w.heap.size + 1, 3, none⟩ (.int .i64 1)).there w.heap.size 0 (#[.int .u8 m, .int .u8 31, .int .u64 0, .int .i64 1] : Array Value).size) := Lib.hid (there_blk M1 4 rfl)
  have HZ : Hid ((Tryd.prog.info? 29).map (·.size) = some (#[.int .u8 m, .int .u8 31, .int .u64 0, .int .i64 1] : Array Value).size) := Lib.hid size29
  have HA := Lib.hid (one4 m 31 0 1)
  clear hb1 L1 L2 hB L1' L2' M1 M2 hB' k0 k1 hS0 hz0
  go_wp2
  refine wp_loop_rounds 1 ?_
  rw [rounds_succ]
  go_wp2_with (with_reducible refine wpList_store_mid rfl 29 (.tmp 4) (.tmp 105) rfl w.heap.size 0 #[.int .u8 m, .int .u8 31, .int .u64 0, .int .i64 1] rfl rfl HT.out HZ.out HA.out ?_)
  have hLd := load4 (wr.setCell ⟨w.heap.size + 1, 3, none⟩ (.int .i64 1)) w.heap.size m 31 0 1 HT.out
  refine bodyPost_ret (v := .tuple #[.agg #[.int .u8 m, .int .u8 31, .int .u64 0, .int .i64 1], .nilIface]) ?_ rfl ⟨rfl, below_setCells _ _ _ _ hBz (Nat.le_refl _)⟩
  simp [results, Tryd.results14, hLd, asAddr, Act.put]

/-- What head.Read tells: a head, or where it goes wrong. -/
def sizeI (i : Int) : Int := if i = 24 then 1 else if i = 25 then 2 else if i = 26 then 4 else if i = 27 then 8 else if i = 31 then 0 else 9
def readF (s : ByteArray) (n : Nat) : Except Nat (Int × Int × Int × Int) :=
  if s.size ≤ n then .error n
  else if behF (at1 s n / 32) (at1 s n % 32) < 0 then .error n
  else if s.size < n + 1 + (behF (at1 s n / 32) (at1 s n % 32)).toNat then .error s.size
  else .ok (at1 s n / 32, at1 s n % 32, (if at1 s n % 32 < 24 then at1 s n % 32 else numF s (n + 1) (behF (at1 s n / 32) (at1 s n % 32)).toNat), 1 + behF (at1 s n / 32) (at1 s n % 32))
def headV (x : Int × Int × Int × Int) : Value := .agg #[.int .u8 x.1, .int .u8 x.2.1, .int .u64 x.2.2.1, .int .i64 x.2.2.2]
/-- What a walk gets from head.Read within the bounds. -/
def ReadPost (a : Nat → Addr) (r : Except Nat (Int × Int × Int × Int)) (w : World) (e : Ending) (w' : World) : Prop :=
  match r with
  | .ok x => e = .returned (.tuple #[headV x, .nilIface]) ∧ Below w.heap.size w w'
  | .error q => ∃ p, e = .returned (.tuple #[zeroH, .iface 62 (.pointer (some ⟨p, 0, none⟩))]) ∧ IsF a 3 q ⟨#[]⟩ p w' ∧ Below w.heap.size w w'
theorem read_any (a : Nat → Addr) (s : ByteArray) (n : Nat) (w : World) (hE : Errs a w) (hS : Sizes w) (hs : s.size ≤ 140737488351232) (hn : n ≤ s.size) :
    Calls Tryd.prog 14 #[.string s, .int .i64 n] w (ReadPost a (readF s n) w) := by
  by_cases h : s.size ≤ n
  · rw [readF, if_pos h]
    exact read_end a s n w hE hs (by omega)
  have hr1 := at1_range s n
  have hr0 := (at1_in s n).2 (by omega)
  obtain ⟨c, hc⟩ : ∃ c, at1 s n = c := ⟨_, rfl⟩
  obtain ⟨m, hm⟩ : ∃ m, c / 32 = m := ⟨_, rfl⟩
  obtain ⟨i, hi⟩ : ∃ i, c % 32 = i := ⟨_, rfl⟩
  rw [readF, if_neg h, hc, hm, hi]
  have hm0 : 0 ≤ m := by omega
  have hm1 : m ≤ 7 := by omega
  by_cases h24 : i < 24
  · have e : behF m i = 0 := by rw [behF, if_pos h24]
    rw [e, if_neg (by decide), if_neg (by simp; omega), if_pos h24]
    exact read_direct s n c m i w hs (by omega) hc hm hi h24
  rcases (by omega : i = 24 ∨ i = 25 ∨ i = 26 ∨ i = 27 ∨ i = 28 ∨ i = 29 ∨ i = 30 ∨ i = 31) with rfl | rfl | rfl | rfl | rfl | rfl | rfl | rfl
  · have e : behF m 24 = 1 := rfl
    rw [e, if_neg (by decide), if_neg h24]
    by_cases hz : s.size < n + 1 + 1
    · rw [show (1 : Int).toNat = 1 from rfl, if_pos hz]
      exact read_short a s n c m 24 1 w hE hS.c0 hs (by omega) hc hm hi (by omega) (by omega) (by omega) hz
    · rw [show (1 : Int).toNat = 1 from rfl, if_neg hz]
      exact read_more s n c m 24 1 w hS.c0 hs (by omega) hc hm hi (by omega) (by omega) (by omega) (by omega)
  · have e : behF m 25 = 2 := rfl
    rw [e, if_neg (by decide), if_neg h24]
    by_cases hz : s.size < n + 1 + 2
    · rw [show (2 : Int).toNat = 2 from rfl, if_pos hz]
      exact read_short a s n c m 25 2 w hE hS.c1 hs (by omega) hc hm hi (by omega) (by omega) (by omega) hz
    · rw [show (2 : Int).toNat = 2 from rfl, if_neg hz]
      exact read_more s n c m 25 2 w hS.c1 hs (by omega) hc hm hi (by omega) (by omega) (by omega) (by omega)
  · have e : behF m 26 = 4 := rfl
    rw [e, if_neg (by decide), if_neg h24]
    by_cases hz : s.size < n + 1 + 4
    · rw [show (4 : Int).toNat = 4 from rfl, if_pos hz]
      exact read_short a s n c m 26 4 w hE hS.c2 hs (by omega) hc hm hi (by omega) (by omega) (by omega) hz
    · rw [show (4 : Int).toNat = 4 from rfl, if_neg hz]
      exact read_more s n c m 26 4 w hS.c2 hs (by omega) hc hm hi (by omega) (by omega) (by omega) (by omega)
  · have e : behF m 27 = 8 := rfl
    rw [e, if_neg (by decide), if_neg h24]
    by_cases hz : s.size < n + 1 + 8
    · rw [show (8 : Int).toNat = 8 from rfl, if_pos hz]
      exact read_short a s n c m 27 8 w hE hS.c3 hs (by omega) hc hm hi (by omega) (by omega) (by omega) hz
    · rw [show (8 : Int).toNat = 8 from rfl, if_neg hz]
      exact read_more s n c m 27 8 w hS.c3 hs (by omega) hc hm hi (by omega) (by omega) (by omega) (by omega)
  · have e : behF m 28 = -1 := rfl
    rw [e, if_pos (by decide)]
    exact read_none9 a s n c m 28 w hE hS.c4 hs (by omega) hc hm hi (by omega)
  · have e : behF m 29 = -1 := rfl
    rw [e, if_pos (by decide)]
    exact read_none9 a s n c m 29 w hE hS.c5 hs (by omega) hc hm hi (by omega)
  · have e : behF m 30 = -1 := rfl
    rw [e, if_pos (by decide)]
    exact read_none9 a s n c m 30 w hE hS.c6 hs (by omega) hc hm hi (by omega)
  · rcases ho : (decide (2 ≤ m) && decide (m ≤ 5) || decide (m = 7)) with _ | _
    · have e : behF m 31 = -1 := by rw [behF, if_neg (by decide), if_neg (by decide), if_neg (by decide), if_neg (by decide), if_neg (by decide), ho, Bool.and_false, if_neg (by decide)]
      rw [e, if_pos (by decide)]
      exact read_none31 a s n c m w hE hS.c7 hs (by omega) hc hm hi ho
    · have e : behF m 31 = 0 := by rw [behF, if_neg (by decide), if_neg (by decide), if_neg (by decide), if_neg (by decide), if_neg (by decide), ho, Bool.and_true, if_pos (by decide)]
      rw [e, if_neg (by decide), if_neg (by simp; omega), if_neg h24]
      exact read_open s n c m w hS.c7 hs (by omega) hc hm hi ho
end Go.Proofs.YtbnckhlfmjoikaaDoor
