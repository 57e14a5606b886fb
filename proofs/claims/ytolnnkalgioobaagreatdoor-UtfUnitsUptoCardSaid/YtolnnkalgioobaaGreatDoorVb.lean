/- The walk of Utfunits. -/
import Derived.Test.YtolnnkalgioobaaGreatDoorVa
namespace Go.Proofs.YtolnnkalgioobaaGreatDoor
open Go.RowKit
set_option maxRecDepth 100000
set_option linter.unusedVariables false
set_option linter.unusedSimpArgs false
set_option linter.unnecessarySimpa false

set_option maxHeartbeats 800000 in
theorem unitsWalk (s : ByteArray) (A : Option Addr) (n c : Nat) (l : List Int) (w : World) (hs : s.size ≤ 1048576) (hl : l.length = n) (hn : n ≤ 1048576) (hr : RK w .u16 A l) (hb : ∀ x ∈ l, 0 ≤ x ∧ x ≤ 65535) :
    Calls Tryz.prog 4 #[.string s, .slice A n c] w fun e w' => e = .returned (.bool true) ∧ Below w.heap.size w w' := by
  have HREF := Lib.hid fun W => refUnits_any s W hs
  have HPRG := Lib.hid fun W => progUnits_any s W hs
  have hyl : (lrOf s (unitsPs (ptsF s))).length ≤ 2097152 := by
    unfold lrOf
    split
    · rename_i h
      have ht := (ptsF_text h).len
      have := units_len2 (ptsF s)
      omega
    · simp
  generalize lrOf s (unitsPs (ptsF s)) = ys at *
  generalize decide (badF s = s.size) = b at *
  obtain ⟨m, hm⟩ : ∃ m, ys.length = m := ⟨_, rfl⟩
  unfold ListPost at HREF HPRG
  rw [hm] at HREF HPRG hyl
  have HM := Lib.hid hm
  have HL := Lib.hid hl
  have HR := Lib.hid hr
  have HB := Lib.hid hb
  have hbb : (b != b) = false := by cases b <;> rfl
  have HSM : Hid (∀ A B c d W, RK W .u16 A ys → RK W .u16 B ys → Calls Tryz.prog 17 #[.slice A m c, .slice B m d] W fun e w' => e = .returned (.bool true) ∧ Below W.heap.size W w') := Lib.hid fun A B c d W h1 h2 => by
    have := same_any A B m c d ys ys W HM.out HM.out (by omega) h1 h2
    rwa [decide_eq_true (rfl : ys = ys)] at this
  have HTB : Hid (∀ zs : List Int, zs.length = n → (∀ x ∈ zs, 0 ≤ x ∧ x ≤ 65535) → ∃ (T : ByteArray) (b : Bool), ∀ (A : Option Addr) (c : Nat) (W : World), RK W .u16 A zs →
    Calls Tryz.prog 19 #[.slice A n c] W (TellPost T b W) ∧ Calls Tryz.prog 20 #[.slice A n c] W (TellPost T b W)) := Lib.hid fun zs h1 h2 => by subst h1; exact tells_both zs hn h2
  clear hl hr hb hm
  go_enter Tryz.func4, Tryz.ntmps4
  go_upto_region 2 with (go_at_call 15; refine (HREF.out _).mono ?_; rintro e w1 ⟨A1, c1, rfl, HX1, hb1⟩)
  go_upto_region 3 with (go_at_call 16; refine (HPRG.out _).mono ?_; rintro e w2 ⟨A2, c2, rfl, HX2, hb2⟩)
  go_upto_region 4 with (go_at_call 16; refine (HPRG.out _).mono ?_; rintro e w3 ⟨A3, c3, rfl, HX3, hb3⟩)
  go_upto_region 5 with (go_at_call 16; refine (lit_prog _).mono ?_; rintro e w4 ⟨A4, c4, rfl, HX4, hb4⟩)
  have k1 := Lib.hid (HX1.out.1.below (below_on (below_on hb2 hb3) hb4))
  have k2 := Lib.hid (HX2.out.1.below (below_on hb3 hb4))
  have k3 := Lib.hid (HX3.out.1.below hb4)
  have k4 := Lib.hid HX4.out.1
  go_upto_region 7 with (first
    | (go_at_call 17; with_reducible refine (HSM.out A2 A1 c2 c1 _ k2.out k1.out).mono ?_; rintro e w5 ⟨rfl, hb5⟩)
    | (go_at_call 17; with_reducible refine (HSM.out A3 A1 c3 c1 _ (k3.out.below hb5) (k1.out.below hb5)).mono ?_; rintro e w6 ⟨rfl, hb6⟩)
    | (go_at_call 17; with_reducible refine (lit_same A4 c4 _ (k4.out.below (below_on hb5 hb6))).mono ?_; rintro e w7 ⟨rfl, hb7⟩))
  have hB7 : Below w.heap.size w w7 := below_on (below_on (below_on (below_on (below_on (below_on hb1 hb2) hb3) hb4) hb5) hb6) hb7
  have hS4 : w4.heap.size ≤ w7.heap.size := by have := hb5.size; have := hb6.size; have := hb7.size; omega
  have h47 := below_on (below_on hb5 hb6) hb7
  go_upto_region 8 with (go_at_call 18; refine (twin_any A c n l _ HL.out (by omega) (HR.out.below hB7)).mono ?_; rintro e w8 ⟨g, rfl, hgl, hg, hb8⟩)
  have HG := Lib.hid hg
  clear hg
  have hB8 := below_on hB7 hb8
  have hlt8 : g < w8.heap.size := (Array.getElem?_eq_some_iff.1 HG.out).1
  obtain ⟨T, tb, HT⟩ := HTB.out l HL.out HB.out
  have HT1 : Hid (Calls Tryz.prog 19 #[.slice A n c] w8 (TellPost T tb w8)) := Lib.hid (HT A c w8 (HR.out.below hB8)).1
  have HT2 : Hid (∀ W, Below w8.heap.size w8 W → Calls Tryz.prog 20 #[.slice (some ⟨g, 0, none⟩) n (n + 1)] W (TellPost T tb W)) := Lib.hid fun W hW => (HT _ (n + 1) W ((twin_rk HG.out).below hW)).2
  have htt : (T.toList == T.toList) = true := beq_self_eq_true _
  have htb : (tb != tb) = false := by cases tb <;> rfl
  clear HT
  go_upto_region 9 with (go_at_call 19; refine HT1.out.mono ?_; rintro e w9 ⟨rfl, hb9⟩)
  go_upto_region 10 with (go_at_call 20; refine (HT2.out _ hb9).mono ?_; rintro e w10 ⟨rfl, hb10⟩)
  have hB10 := below_on (below_on hB8 hb9) hb10
  have HLF : Hid (Calls Tryz.prog 21 #[.slice (some ⟨g, 0, none⟩) n (n + 1), .slice A n c] w10 fun e w' => e = .returned (.bool true) ∧ Below w10.heap.size w10 w') :=
    Lib.hid (left_yes g A c n l w10 HL.out (by omega) (((below_on hb9 hb10).block g hlt8).trans HG.out) (HR.out.below hB10))
  go_upto_region 12 with (go_at_call 21; refine HLF.out.mono ?_; rintro e w11 ⟨rfl, hb11⟩)
  have hB11 := below_on hB10 hb11
  have h811 := below_on (below_on hb9 hb10) hb11
  have HI0 : Hid (TurnI w11 w11 w7.heap.size g n) := Lib.hid ⟨Keeps.refl _ _, l, (by have h := (twin_own (m := spareM) w7.heap.size hgl (by rw [HL.out]; omega) HG.out).kept h811; rw [HL.out] at h; exact h), HL.out, HB.out⟩
  clear HT1 HT2 HLF htt htb
  go_wp2
  go_loopw [18, 19] (fun i _ W => ∃ k : Nat, k ≤ n / 2 ∧ i = .int .i64 k ∧ Hid (TurnI w11 W w7.heap.size g n)) (fun i _ _ => n / 2 - (intOf i).toNat)
  case atStart => exact ⟨0, by omega, rfl, HI0⟩
  case round =>
    obtain ⟨k, hk, rfl, HI⟩ := hrel
    by_cases hlt : k < n / 2
    · obtain ⟨K, hK⟩ : ∃ K : Nat, (n : Int) - 1 - (k : Int) = (K : Int) := ⟨n - 1 - k, by omega⟩
      have hKn : K < n := by omega
      have hkn : k < n := by omega
      have hkK : k ≠ K := by omega
      obtain ⟨x, hx, hxr⟩ := HI.out.at k (by omega)
      obtain ⟨y, hy, hyr⟩ := HI.out.at K hKn
      have fx := HI.out.free k
      have HI2 := HI.out.set k y hyr
      obtain ⟨z, hz, _⟩ := HI2.at K hKn
      have fz := HI2.free K
      have HI3 := Lib.hid (HI2.set K x hxr)
      clear HI2 HI
      have hlt2 : (k : Int) < (n : Int) / 2 := by omega
      go_upto_region 16 with fail
      go_region_law fail
      all_goals (
        first | go_wp2 | (go_goals; fail) | skip
        try go_roundw
        case rel => exact ⟨k + 1, by omega, by go_num, Lib.hid (HI3.out.below ((Below.refl _ _).drew))⟩
        case measure => (simp only [intOf]; omega))
    · have hge : ¬ ((k : Int) < (n : Int) / 2) := by omega
      obtain ⟨hK0, zs, hz1, hz2, hz3⟩ := HI.out
      obtain ⟨T2, tb2, HT⟩ := HTB.out zs hz2 hz3
      obtain ⟨A9, c9, e9, hrz, e9c, e9d⟩ := hz1.slice
      simp only [Value.slice.injEq] at e9
      obtain ⟨rfl, e9a, e9b⟩ := e9
      have HZO := Lib.hid hz1
      clear e9a e9b e9c e9d
      obtain ⟨i0, hi, hzz⟩ := Option.map_eq_some_iff.1 info52u
      simp only [Prod.mk.injEq] at hzz
      obtain ⟨hz0, hz1', hz2'⟩ := hzz
      have HRZ := Lib.hid hrz
      have HT1 : Hid (∀ A c W, RK W .u16 A zs → Calls Tryz.prog 19 #[.slice A n c] W (TellPost T2 tb2 W)) := Lib.hid fun A c W h => (HT A c W h).1
      have HT2 : Hid (∀ W, Below wr.heap.size wr W → Calls Tryz.prog 20 #[.slice (some ⟨g, 0, none⟩) n (n + 1)] W (TellPost T2 tb2 W)) := Lib.hid fun W hW => (HT _ (n + 1) W (hrz.below hW)).2
      have htt : (T2.toList == T2.toList) = true := beq_self_eq_true _
      have htb : (tb2 != tb2) = false := by cases tb2 <;> rfl
      have HZL := Lib.hid hz2
      clear HT hrz hz3 hlt hk hz1
      have hrd : Hid (Reads (wr.alloc (.cells #[] 52)) (wr.alloc (.cells #[] 52)).heap.size 1 (some ⟨g, 0, none⟩) n (numsK .u16 zs)) := Lib.hid (by
        have h := (HRZ.out.below ((Below.refl _ _).alloc (Nat.le_refl _) (.cells #[] 52))).reads
        rwa [HZL.out] at h)
      clear hz2
      go_upto_region 18 with (first
        | (go_at_call 19; refine (HT1.out _ _ _ hrk9.out).mono ?_; rintro e w13 ⟨rfl, hb13⟩)
        | (at_builtin; refine wpList_append_any _ rfl (.tmp 127) (.tmp 128) 48 rfl wr.heap.size 52 i0 (.int .u16 0) 1 2 Tryz.underlying48 hi hz0 hz1' hz2' rfl (by decide) (.slice (some ⟨wr.heap.size, 0, none⟩) 0 0) 0 [] rfl (own_empty wr _ 52 (Nat.le_refl _)) _ (some ⟨g, 0, none⟩) n (n + 1) (numsK .u16 zs) rfl hrd.out (nums_one _ _) (by simp only [maxLen]; omega) (by omega) (by simp) ?_; intro v3 w12 ho3 hg3 hat3; have ho3' : Own w12 wr.heap.size 52 .u16 v3 zs := (by unfold Own; rw [HZL.out]; simpa using ho3); obtain ⟨A9, c9, hv3, hrk9', _, _⟩ := ho3'.slice; rw [HZL.out] at hv3; subst hv3; have hrk9 := Lib.hid hrk9'; clear ho3 ho3' hrk9'))
      have hB13 := below_on (((Below.refl wr.heap.size wr).alloc (Nat.le_refl _) (.cells #[] 52)).grown hg3 (by simp) (fun k hk => by simp [Value.ownBlock] at hk; omega)) hb13
      go_upto_region 21 with (go_at_call 20; refine (HT2.out _ hB13).mono ?_; rintro e w14 ⟨rfl, hb14⟩)
      have hB14 := below_on hB13 hb14
      have hkeep : ∀ {B2 : Nat} {u : Value} {xs : List Int} {W : World}, Own W B2 52 .u16 u xs → Below W.heap.size W w8 → (∀ i, u.ownBlock = some i → i < w7.heap.size) → Own w14 w.heap.size 52 .u16 u xs ∨ B2 < w.heap.size := fun {B2 u xs W} ho hW hlt => by
        rcases Nat.lt_or_ge B2 w.heap.size with h | h
        · exact .inr h
        · refine .inl (own_down ?_ h)
          have o1 := (ho.kept hW).kept h811
          have o2 := own_on o1 fun i hi => hK0.block i (World.ownsRow.lt o1 i hi).2 (fun e => by have := hlt i hi; omega)
          exact o2.kept hB14
      have oa : Own w14 w.heap.size 52 .u16 (.slice A2 m c2) ys := (hkeep HX2.out.2 (below_on (below_on (below_on hb3 hb4) h47) hb8) (fun i hi => by have := (World.ownsRow.lt HX2.out.2 i hi).2; have := hb3.size; have := hb4.size; omega)).resolve_right (by have := hb1.size; omega)
      have ob : Own w14 w.heap.size 52 .u16 (.slice A3 m c3) ys := (hkeep HX3.out.2 (below_on (below_on hb4 h47) hb8) (fun i hi => by have := (World.ownsRow.lt HX3.out.2 i hi).2; have := hb4.size; omega)).resolve_right (by have := hb1.size; have := hb2.size; omega)
      have oc : Own w14 w.heap.size 52 .u16 (.slice A4 3 c4) [55357, 56832, 98] := (hkeep HX4.out.2 (below_on h47 hb8) (fun i hi => by have := (World.ownsRow.lt HX4.out.2 i hi).2; omega)).resolve_right (by have := hb1.size; have := hb2.size; have := hb3.size; omega)
      have ot : Own w14 w.heap.size 52 .u16 (.slice (some ⟨g, 0, none⟩) n (n + 1)) zs := own_down (HZO.out.kept hB14) hB7.size
      have hgp : g < w14.heap.size := (World.ownsRow.lt ot g rfl).2
      have hsz14 : w.heap.size ≤ w14.heap.size := by have := hB11.size; have := hK0.size; have := hB14.size; omega
      have HLS := Lib.hid (four (p := w14.heap.size) (h1 := w2.heap.size) (h2 := w3.heap.size) (h3 := w4.heap.size) (a := ⟨A2, m, c2, ys⟩) (b := ⟨A3, m, c3, ys⟩) (c := ⟨A4, 3, c4, [55357, 56832, 98]⟩) (t := ⟨some ⟨g, 0, none⟩, n, n + 1, zs⟩) oa ob oc ot
        ⟨HM.out, by show m ≤ _; omega⟩ ⟨HM.out, by show m ≤ _; omega⟩ ⟨rfl, by show 3 ≤ _; omega⟩ ⟨HZL.out, by show n ≤ _; omega⟩
        (fun i hi => (World.ownsRow.lt HX2.out.2 i hi).2) (fun i hi => World.ownsRow.lt HX3.out.2 i hi) (fun i hi => World.ownsRow.lt HX4.out.2 i hi)
        (fun i hi => by have e : i = g := by have : some g = some i := hi; injection this with this; exact this.symm
                        subst e; exact ⟨by omega, hgp⟩)
        hb3.size hb4.size (by have := hb8.size; have := h811.size; have := hK0.size; have := hB14.size; omega))
      have hBW : Below w.heap.size w w14 := (hB11.trans ((hK0.toBelow (B := w.heap.size) (fun k _ hk => by subst hk; have := hB7.size; omega) hB11.size))).trans (hB14.mono (by have := hB11.size; have := hK0.size; omega))
      clear oa ob oc ot hkeep
      go_upto_region 22 with fail
      have HK0 : Hid (Kept (w14.alloc (.cells #[.int .i64 0, .slice none 0 0, .slice none 0 0, .slice none 0 0, .slice none 0 0, .slice none 0 0, .slice none 0 0, .slice none 0 0, .slice none 0 0, .slice none 0 0, .slice none 0 0, .slice none 0 0, .slice none 0 0, .slice none 0 0, .slice none 0 0] 44)) w.heap.size w14.heap.size 4 0 (pick4 ⟨A2, m, c2, ys⟩ ⟨A3, m, c3, ys⟩ ⟨A4, 3, c4, [55357, 56832, 98]⟩ ⟨some ⟨g, 0, none⟩, n, n + 1, zs⟩) (.slice none 0 0)) :=
        Lib.hid (Kept.start (HLS.out.keeps (S := fun _ => False) ((Keeps.refl _ _).alloc _) (fun _ h => h.elim)) (heap_alloc_new w14 _) (by simp; omega))
      have hBW0 : Below w.heap.size w (w14.alloc (.cells #[.int .i64 0, .slice none 0 0, .slice none 0 0, .slice none 0 0, .slice none 0 0, .slice none 0 0, .slice none 0 0, .slice none 0 0, .slice none 0 0, .slice none 0 0, .slice none 0 0, .slice none 0 0, .slice none 0 0, .slice none 0 0, .slice none 0 0] 44)) := hBW.alloc hBW.size _
      generalize w14.alloc (.cells #[.int .i64 0, .slice none 0 0, .slice none 0 0, .slice none 0 0, .slice none 0 0, .slice none 0 0, .slice none 0 0, .slice none 0 0, .slice none 0 0, .slice none 0 0, .slice none 0 0, .slice none 0 0, .slice none 0 0, .slice none 0 0, .slice none 0 0] 44) = W0 at *
      clear HLS hgp hBW hB14 hB13 hb14
      generalize hp : w14.heap.size = p at *
      clear hp
      obtain ⟨v0, hv0⟩ : ∃ v0, Value.slice none 0 0 = v0 := ⟨_, rfl⟩
      obtain ⟨L, hL⟩ : ∃ L, pick4 ⟨A2, m, c2, ys⟩ ⟨A3, m, c3, ys⟩ ⟨A4, 3, c4, [55357, 56832, 98]⟩ ⟨some ⟨g, 0, none⟩, n, n + 1, zs⟩ = L := ⟨_, rfl⟩
      rw [hv0, hL] at HK0
      clear hv0
      have hc0 : Calls Tryz.prog 22 #[.pointer (some ⟨p, 0, none⟩), .slice A2 m c2] W0 fun e w' => e = .returned (.tuple #[]) ∧ KeepPost p (entsOf L 0).N (entsOf L 0).N w.heap.size (one4 v0) (rowCells (entsOf L 0) (entsOf L 0).N) (L 0).v W0 w' := by
        have h := HK0.out.call
        rw [show (L 0).v = .slice A2 m c2 from by rw [← hL]; rfl] at h ⊢
        exact h
      have HC0 := Lib.hid hc0
      clear hc0
      go_upto_region 23 with (go_at_call 22; refine HC0.out.mono ?_; rintro e W1 ⟨rfl, hk0⟩)
      obtain ⟨⟨v1, HKn0⟩, hkk0⟩ := HK0.out.step (by decide) (by decide) hk0
      have HK1 := Lib.hid HKn0
      have hBW1 : Below w.heap.size w W1 := hBW0.trans (hkk0.toBelow (fun k _ hh => by omega) hBW0.size)
      clear HKn0 hkk0 hk0 HC0
      have hc1 : Calls Tryz.prog 22 #[.pointer (some ⟨p, 0, none⟩), .slice A3 m c3] W1 fun e w' => e = .returned (.tuple #[]) ∧ KeepPost p (entsOf L 1).N (entsOf L 1).N w.heap.size (one4 v1) (rowCells (entsOf L 1) (entsOf L 1).N) (L 1).v W1 w' := by
        have h := HK1.out.call
        rw [show (L 1).v = .slice A3 m c3 from by rw [← hL]; rfl] at h ⊢
        exact h
      have HC1 := Lib.hid hc1
      clear hc1
      go_upto_region 24 with (go_at_call 22; refine HC1.out.mono ?_; rintro e W2 ⟨rfl, hk1⟩)
      obtain ⟨⟨v2, HKn1⟩, hkk1⟩ := HK1.out.step (by decide) (by decide) hk1
      have HK2 := Lib.hid HKn1
      have hBW2 : Below w.heap.size w W2 := hBW1.trans (hkk1.toBelow (fun k _ hh => by omega) hBW1.size)
      clear HKn1 hkk1 hk1 HC1
      have hc2 : Calls Tryz.prog 22 #[.pointer (some ⟨p, 0, none⟩), .slice A4 3 c4] W2 fun e w' => e = .returned (.tuple #[]) ∧ KeepPost p (entsOf L 2).N (entsOf L 2).N w.heap.size (one4 v2) (rowCells (entsOf L 2) (entsOf L 2).N) (L 2).v W2 w' := by
        have h := HK2.out.call
        rw [show (L 2).v = .slice A4 3 c4 from by rw [← hL]; rfl] at h ⊢
        exact h
      have HC2 := Lib.hid hc2
      clear hc2
      go_upto_region 25 with (go_at_call 22; refine HC2.out.mono ?_; rintro e W3 ⟨rfl, hk2⟩)
      obtain ⟨⟨v3, HKn2⟩, hkk2⟩ := HK2.out.step (by decide) (by decide) hk2
      have HK3 := Lib.hid HKn2
      have hBW3 : Below w.heap.size w W3 := hBW2.trans (hkk2.toBelow (fun k _ hh => by omega) hBW2.size)
      clear HKn2 hkk2 hk2 HC2
      have hc3 : Calls Tryz.prog 22 #[.pointer (some ⟨p, 0, none⟩), .slice (some ⟨g, 0, none⟩) n (n + 1)] W3 fun e w' => e = .returned (.tuple #[]) ∧ KeepPost p (entsOf L 3).N (entsOf L 3).N w.heap.size (one4 v3) (rowCells (entsOf L 3) (entsOf L 3).N) (L 3).v W3 w' := by
        have h := HK3.out.call
        rw [show (L 3).v = .slice (some ⟨g, 0, none⟩) n (n + 1) from by rw [← hL]; rfl] at h ⊢
        exact h
      have HC3 := Lib.hid hc3
      clear hc3
      go_upto_region 26 with (go_at_call 22; refine HC3.out.mono ?_; rintro e W4 ⟨rfl, hk3⟩)
      obtain ⟨⟨v4, HKn3⟩, hkk3⟩ := HK3.out.step (by decide) (by decide) hk3
      have HK4 := Lib.hid HKn3
      have hBW4 : Below w.heap.size w W4 := hBW3.trans (hkk3.toBelow (fun k _ hh => by omega) hBW3.size)
      clear HKn3 hkk3 hk3 HC3
      have HAP := Lib.hid (HK4.out.apart (by decide))
      clear HK0 HK1 HK2 HK3 HK4 hBW0 hBW1 hBW2 hBW3 hL
      go_wp2_with (first
        | (go_at_call 13; refine HAP.out.mono ?_; rintro e w20 ⟨rfl, hb20⟩)
        | (go_at_call 14; refine (lives_any _).mono ?_; rintro e w21 ⟨rfl, hb21⟩))
      go_ret
      have hB20 := hBW4.trans hb20
      exact ⟨rfl, below_on hB20 hb21⟩
end Go.Proofs.YtolnnkalgioobaaGreatDoor

