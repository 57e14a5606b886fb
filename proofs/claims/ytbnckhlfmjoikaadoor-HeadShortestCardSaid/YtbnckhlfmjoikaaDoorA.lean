/- What bits.Len64 answers: the number of bits of its argument, any uint64. -/
import Derived.Test.YtbnckhlfmjoikaaDoorProg
import Derived.WalkKit
import Derived.KernelRfl
import Derived.Lib.BitFns
import Derived.Deep.Light
namespace Go.Proofs.YtbnckhlfmjoikaaDoor
open Go.RowKit
set_option maxRecDepth 100000

theorem tab_size : Lib.len8tab.size = 256 := by decide

theorem tab_at (y : Int) (h0 : 0 ≤ y) (h1 : y ≤ 255) (h : y.toNat < Lib.len8tab.size) : ((Lib.len8tab[y.toNat]'h).toNat : Int) = Lib.bitLen y.toNat := by
  rw [← Lib.len8_of y h0 h1]
  unfold Lib.len8
  rw [getElem?_pos Lib.len8tab y.toNat h]
  rfl

theorem wrap_sum (k a : Nat) (hk : k ≤ 56) (ha : a ≤ 8) : wrap64 ((k : Int) + wrap64 (a : Int)) = ((k + a : Nat) : Int) := by
  unfold wrap64
  omega

/-- One way through: y is what stands above the lowest k bits of x, and a byte. -/
theorem way (x y : Int) (k : Nat) (h : y.toNat < Lib.len8tab.size) (hk : k ≤ 56) (hy : y = x / 2 ^ k) (h0 : 0 ≤ x) (hx : 2 ^ k ≤ x) (h1 : x ≤ 18446744073709551615) (hb : y ≤ 255) (hy0 : 0 ≤ y) :
    wrap64 ((k : Int) + wrap64 ((Lib.len8tab[y.toNat]'h).toNat : Int)) = (Lib.bitLen x.toNat : Int) := by
  rw [tab_at y hy0 hb]
  have h8 := Lib.bitLen_le8' y hy0 hb
  obtain ⟨n, rfl⟩ := Int.eq_ofNat_of_zero_le h0
  obtain ⟨m, rfl⟩ := Int.eq_ofNat_of_zero_le hy0
  have em : m = n / 2 ^ k := by exact_mod_cast hy
  have hs := Lib.bitLen_shift k n (by exact_mod_cast hx) (by clear hy em hx; omega)
  rw [← em] at hs
  simp only [Int.toNat_natCast] at h8 ⊢
  rw [hs]
  exact wrap_sum k _ hk h8

theorem way0 (x : Int) (h : x.toNat < Lib.len8tab.size) (h0 : 0 ≤ x) (hb : x ≤ 255) : wrap64 (wrap64 ((Lib.len8tab[x.toNat]'h).toNat : Int)) = (Lib.bitLen x.toNat : Int) := by
  rw [tab_at _ h0 hb]
  have h8 := Lib.bitLen_le8' x h0 hb
  unfold wrap64
  omega

set_option maxHeartbeats 4000000 in
theorem len64_any (x : Int) (w : World) (h0 : 0 ≤ x) (h1 : x ≤ 18446744073709551615) :
    Calls Tryd.prog 21 #[.int .u64 x] w fun e w' => e = .returned (.int .i64 (Lib.bitLen x.toNat)) ∧ w = w' := by
  go_enter Tryd.func21, Tryd.ntmps21
  go_wp2
  all_goals first
    | (go_ret; refine ⟨congrArg Ending.returned (congrArg (Value.int IntKind.i64) ?_), rfl⟩; go_light)
    | (exfalso; go_light; have := tab_size; omega)
  all_goals first
    | exact way0 x _ h0 (by omega)
    | exact way x _ 8 _ (by omega) (by omega) h0 (by omega) h1 (by omega) (by omega)
    | exact way x _ 16 _ (by omega) (by omega) h0 (by omega) h1 (by omega) (by omega)
    | exact way x _ 24 _ (by omega) (by omega) h0 (by omega) h1 (by omega) (by omega)
    | exact way x _ 32 _ (by omega) (by omega) h0 (by omega) h1 (by omega) (by omega)
    | exact way x _ 40 _ (by omega) (by omega) h0 (by omega) h1 (by omega) (by omega)
    | exact way x _ 48 _ (by omega) (by omega) h0 (by omega) h1 (by omega) (by omega)
    | exact way x _ 56 _ (by omega) (by omega) h0 (by omega) h1 (by omega) (by omega)
end Go.Proofs.YtbnckhlfmjoikaaDoor
