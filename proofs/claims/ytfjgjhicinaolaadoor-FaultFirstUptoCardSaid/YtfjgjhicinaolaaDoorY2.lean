/- FaultFirst: the walk. -/
import Derived.Test.YtfjgjhicinaolaaDoorY1
namespace Go.Proofs.YtfjgjhicinaolaaDoor
open Go.RowKit Go.Extern.Stop Go.Stop Go.Extern
set_option maxRecDepth 100000
set_option linter.unusedVariables false
set_option linter.unusedSimpArgs false
set_option linter.unnecessarySimpa false

/-- What holds of the list of errors. -/
structure ListI (a : Nat → Addr) (w0 : World) (v : Value) (Ts : List ET) (W : World) : Prop where
  b : Below w0.heap.size w0 W
  o : W.ownsRow w0.heap.size 27 1 v Ts.length (Ts.map (ET.val a))
  f : ∀ T, T ∈ Ts → Foot a w0.heap.size (fun b => some b = v.ownBlock) W T
theorem ListI.below {a : Nat → Addr} {w0 : World} {v : Value} {Ts : List ET} {W w1 : World} (h : ListI a w0 v Ts W) (hb : Below W.heap.size W w1) : ListI a w0 v Ts w1 :=
  ⟨h.b.trans (hb.mono h.b.size), own_copy h.o fun g hg => by obtain ⟨_, cs, hh⟩ := own_blk h.o hg; exact hb.block _ (lt_of_blk hh), fun T hT => (h.f T hT).below hb⟩
theorem ListI.holds {a : Nat → Addr} {w0 : World} {v : Value} {Ts : List ET} {W : World} (h : ListI a w0 v Ts W) : ∀ T, T ∈ Ts → Holds a W T := fun T hT => (h.f T hT).holds
theorem ListI.row {a : Nat → Addr} {w0 : World} {v : Value} {Ts : List ET} {W : World} (h : ListI a w0 v Ts W) : RowAt W v (Ts.map (ET.val a)) := by
  rcases h.o.2 with ⟨rfl, h0⟩ | ⟨g, cap, cur, rfl, hb, hh, hc, hcm, hcs, htake⟩
  · refine .inl ⟨rfl, ?_⟩
    have : Ts = [] := List.length_eq_zero_iff.1 h0
    rw [this]; rfl
  · refine .inr ⟨g, cap, by rw [List.length_map], by rw [List.length_map]; exact hc, hcm, fun i x hx => ?_⟩
    rw [cell_new hh]
    rw [← htake, List.getElem?_take] at hx
    split at hx
    · simpa using hx
    · cases hx
theorem list_step {a : Nat → Addr} {w0 : World} {v : Value} {Ts : List ET} {W w2 : World} {T : ET} (h : ListI a w0 v Ts W) (hb : Below W.heap.size W w2) (hF : Foot a W.heap.size (fun _ => False) w2 T) {g cap : Nat} {w4 : World}
    (hown : w4.ownsRow w0.heap.size 27 1 (.slice (some ⟨g, 0, none⟩) (Ts.length + 1) cap) (Ts.length + 1) (Ts.map (ET.val a) ++ [T.val a])) (hgr : (w2.alloc (.cells #[T.val a] 27)).grownBy w4 v.ownBlock) (hat : v.ownBlock = some g ∨ g = w2.heap.size + 1) :
    ListI a w0 (.slice (some ⟨g, 0, none⟩) (Ts.length + 1) cap) (Ts ++ [T]) w4 := by
  have hW2 := h.below hb
  have hsz : (w2.alloc (.cells #[T.val a] 27)).heap.size = w2.heap.size + 1 := by simp
  have hold : ∀ k, k < w2.heap.size → (w2.alloc (.cells #[T.val a] 27)).heap[k]? = w2.heap[k]? := fun k hk => Below.heap_alloc w2 _ k hk
  have h4 : ∀ k, k < w2.heap.size → some k ≠ v.ownBlock → w4.heap[k]? = w2.heap[k]? := fun k hk hne => (hgr.block k (by omega) hne).trans (hold k hk)
  have hs4 : w2.heap.size + 1 ≤ w4.heap.size := by have := hgr.size; omega
  have hB4 : Below w0.heap.size w0 w4 := by
    refine ((hW2.b).alloc hW2.b.size (.cells #[T.val a] 27)).grown hgr (by have := hW2.b.size; omega) fun k hk => ?_
    exact (own_blk hW2.o hk).1
  refine ⟨hB4, by simpa using hown, ?_⟩
  have hA : ∀ (base : Nat) (no : Nat → Prop), (∀ b, some b = v.ownBlock → no b) → ∀ W', Agree base (fun b => some b = (Value.slice (some ⟨g, 0, none⟩) (Ts.length + 1) cap).ownBlock) w4 W' → Agree base no w2 W' := by
    intro base no hno W' hW b h1 h2 h3
    have hb2 : some b ≠ v.ownBlock := fun e => h3 (hno b e)
    have hbg : b ≠ g := by
      rintro rfl
      rcases hat with e | e
      · exact hb2 e.symm
      · omega
    refine (hW b h1 (by omega) ?_).trans (h4 b h2 hb2)
    intro e
    simp only [Value.ownBlock, Option.some.injEq] at e
    exact hbg e
  intro T' hT'
  rcases List.mem_append.1 hT' with h1 | h1
  · exact fun W' hW => hW2.f T' h1 W' (hA _ _ (fun b hb => hb) W' hW)
  · obtain rfl : T' = T := by simpa using h1
    refine fun W' hW => hF W' fun b hb1 hb2 _ => ?_
    have h5 := h.b.size
    refine hA w0.heap.size (fun b => some b = v.ownBlock) (fun b hb => hb) W' hW b (by omega) hb2 ?_
    intro e
    obtain ⟨_, cs, hh⟩ := own_blk h.o e.symm
    have := lt_of_blk hh
    omega
theorem list_fin {a : Nat → Addr} {w0 : World} {v u : Value} {Ts : List ET} {W w2 w4 : World} {j g cap : Nat} {l' : List ND} (h : ListI a w0 v Ts W) (hj : Ts.length = j) (hb : Below W.heap.size W w2)
    (hT : ∃ T, T.val a = u ∧ Foot a W.heap.size (fun _ => False) w2 T ∧ Likes l' (Ts ++ [T]))
    (hown : w4.ownsRow w0.heap.size 27 1 (.slice (some ⟨g, 0, none⟩) (Ts.length + 1) cap) (Ts.length + 1) (Ts.map (ET.val a) ++ [u])) (hgr : (w2.alloc (.cells #[u] 27)).grownBy w4 v.ownBlock) (hat : v.ownBlock = some g ∨ g = w2.heap.size + 1) :
    ∃ Ts', Likes l' Ts' ∧ Ts'.length = j + 1 ∧ ListI a w0 (.slice (some ⟨g, 0, none⟩) (Ts.length + 1) cap) Ts' w4 := by
  obtain ⟨T, rfl, h1, h2⟩ := hT
  exact ⟨Ts ++ [T], h2, by simp [hj], list_step h hb h1 hown hgr hat⟩
theorem Likes.at {l : List ND} : ∀ {l : List ND} {Ts : List ET}, Likes l Ts → l.length = Ts.length ∧ ∀ i (h : i < l.length) (h2 : i < Ts.length), Like (l[i]) (Ts[i])
  | [], [], _ => ⟨rfl, fun i h => by simp at h⟩
  | N :: l, T :: m, h => by
    obtain ⟨h1, h2⟩ := h
    obtain ⟨h3, h4⟩ := Likes.at (l := l) h2
    refine ⟨by simp [h3], fun i hi hi2 => ?_⟩
    cases i with
    | zero => exact h1
    | succ i => simpa only [List.getElem_cons_succ] using h4 i (by simpa using hi) (by simpa using hi2)
theorem firstT_skip {Ts : List ET} : ∀ k, k ≤ Ts.length → (∀ i (h : i < Ts.length), i < k → Ts[i] = .nil) → firstT Ts = firstT (Ts.drop k)
  | 0, _, _ => rfl
  | k + 1, hk, h => by
    rw [firstT_skip k (by omega) fun i hi hik => h i hi (by omega), firstT_drop (by omega), h k (by omega) (by omega)]
/-- The five cells of a Node of the row, where it lies, in each later world. -/
theorem node_cells {w : World} {A : Option Addr} {l : List ND} (h : NRow w A l) (j : Nat) (hj : j < l.length) : ∃ b off, A = some ⟨b, off, none⟩ ∧ b < w.heap.size ∧ ∀ W, Below w.heap.size w W →
    W.cell? ⟨b, off + j * 5, none⟩ = some (.int .i64 (l[j]).k) ∧ W.cell? ⟨b, off + j * 5 + 1, none⟩ = some (.int .i64 (l[j]).c) ∧ W.cell? ⟨b, off + j * 5 + 2, none⟩ = some (.int .i64 (l[j]).n) ∧ W.cell? ⟨b, off + j * 5 + 3, none⟩ = some (.string (l[j]).s) ∧ W.cell? ⟨b, off + j * 5 + 4, none⟩ = some (l[j]).kids := by
  rcases h with h | ⟨b, off, e, h⟩
  · rw [h] at hj; simp at hj
  · exact ⟨b, off, e, World.block_lt_of_cell? w _ (h j hj 0 _ rfl), fun W hb => ⟨keep1 hb (h j hj 0 _ rfl), keep1 hb (h j hj 1 _ rfl), keep1 hb (h j hj 2 _ rfl), keep1 hb (h j hj 3 _ rfl), keep1 hb (h j hj 4 _ rfl)⟩⟩

set_option maxHeartbeats 4000000 in
theorem firstWalk (A : Option Addr) (m cap : Nat) (L : List ND) (w : World) (hS : ∃ a oa, Seat a oa w) (hm : L.length = m) (hcap : m ≤ cap ∧ cap ≤ 9223372036854775807) (hr : NRow w A L) (hI : InL w L) (hz : ND.szL L ≤ 1048576) :
    Calls Tryd.prog 8 #[.slice A m cap] w fun e w' => e = .returned (.bool true) ∧ Below w.heap.size w w' := by
  obtain ⟨a, oa, hS⟩ := hS
  obtain ⟨i0, hi, hz0, hz1, hz2⟩ := info_parts info27
  have hmz : m ≤ 1048576 := by have := len_szL L; omega
  have h9 : ∃ b, Calls Tryd.prog 9 #[.slice A m cap] w fun e w' => e = .returned (.bool b) ∧ Below w.heap.size w w' := by subst hm; exact beyond_any A cap L w hcap.1 hcap.2 hr hI hz
  have HSZ : Hid (∀ x, x ∈ L → x.sz ≤ 1048576) := Lib.hid fun x hx => Nat.le_trans (ND.szL_mem hx) hz
  have HCELL : Hid (∀ j (hj : j < L.length), ∃ b off, A = some ⟨b, off, none⟩ ∧ b < w.heap.size ∧ ∀ W, Below w.heap.size w W → W.cell? ⟨b, off + j * 5, none⟩ = some (.int .i64 (L[j]).k) ∧ W.cell? ⟨b, off + j * 5 + 1, none⟩ = some (.int .i64 (L[j]).c) ∧ W.cell? ⟨b, off + j * 5 + 2, none⟩ = some (.int .i64 (L[j]).n) ∧ W.cell? ⟨b, off + j * 5 + 3, none⟩ = some (.string (L[j]).s) ∧ W.cell? ⟨b, off + j * 5 + 4, none⟩ = some (L[j]).kids) := Lib.hid (node_cells hr)
  have HIN : Hid (∀ x, x ∈ L → ∀ W, Below w.heap.size w W → In W x) := Lib.hid fun x hx W hW => (hI.mem hx).below hW
  have HS : Hid (∀ W, Below w.heap.size w W → Seat a oa W) := Lib.hid fun W hW => hS.below hW
  have H14 : Hid (∀ W, Below w.heap.size w W → Calls Tryd.prog 14 #[] W fun e w' => e = .returned (.bool true) ∧ Below W.heap.size W w') := Lib.hid fun W hb => lives_any a oa W (hS.below hb)
  have HM := Lib.hid hm
  clear hr hI hz hS hm
  obtain ⟨hcap, hcap2⟩ := hcap
  obtain ⟨b9, h9⟩ := h9
  cases b9 with
  | true =>
    go_enter Tryd.func8, Tryd.ntmps8
    go_wp2_with (go_at_call 9; refine h9.mono ?_; rintro e w1 ⟨rfl, hb1⟩)
    go_ret
    exact ⟨rfl, hb1⟩
  | false =>
    go_enter Tryd.func8, Tryd.ntmps8
    go_upto_region 5 with (go_at_call 9; refine h9.mono ?_; rintro e w1 ⟨rfl, hb1⟩)
    clear h9
    have HB1 := Lib.hid hb1
    have hlb : w.heap.size ≤ w1.heap.size := hb1.size
    clear hb1
    have HI0 : Hid (ListI a w1 (.slice none 0 0) [] w1) := Lib.hid ⟨Below.refl _ _, ⟨by simp, .inl ⟨rfl, rfl⟩⟩, fun T hT => by cases hT⟩
    go_loopw [3, 4] (fun v i W => ∃ (j : Nat) (Ts : List ET), i = .int .i64 j ∧ j ≤ m ∧ Hid (Likes (L.take j) Ts ∧ Ts.length = j) ∧ Hid (ListI a w1 v Ts W)) (fun _ i _ => m - (intOf i).toNat)
    case atStart => exact ⟨0, [], rfl, by omega, Lib.hid ⟨trivial, rfl⟩, HI0⟩
    case round =>
      clear HI0
      obtain ⟨j, Ts, rfl, hj, HL, HI⟩ := hrel
      by_cases hlt : j < m
      · have hjl : j < L.length := by rw [HM.out]; exact hlt
        obtain ⟨b, off, e, hbk, hc⟩ := HCELL.out j hjl
        have hbw : Below w.heap.size w wr := HB1.out.trans (HI.out.b.mono hlb)
        have hmem : L[j] ∈ L := List.getElem_mem hjl
        have HSN : Hid (∀ T, Like (L[j]) T → Likes (L.take (j + 1)) (Ts ++ [T])) := Lib.hid fun T hT => by rw [List.take_succ_eq_append_getElem hjl]; exact Likes.snoc hT HL.out.1
        generalize L[j] = x at hc hmem HSN
        obtain ⟨d0, d1, d2, d3, d4⟩ := hc wr hbw
        have HCALL : Hid (∀ W, Below wr.heap.size wr W → Calls Tryd.prog 10 #[.agg #[.int .i64 x.k, .int .i64 x.c, .int .i64 x.n, .string x.s, x.kids]] W fun e w' => ∃ T, e = .returned (T.val a) ∧ (x.isN = true → T.val a = .nilIface) ∧ (x.isN = false → ∃ t u, T.val a = .iface t u) ∧ Hid (Foot a wr.heap.size (fun _ => False) w' T ∧ Likes (L.take (j + 1)) (Ts ++ [T])) ∧ Below W.heap.size W w') := Lib.hid fun W hW => by
          have hWw := trans_b hbw hW
          refine (build_any a _ x W (Nat.le_refl _) (by have := HSZ.out x hmem; omega) (HIN.out x hmem W hWw) (HS.out W hWw).e).mono ?_
          rintro e w' ⟨T, h1, h2, h3, h4⟩
          exact ⟨T, h1, fun hh => by rw [h3.nil.2 hh]; rfl, fun hh => val_nil a T (fun hT => by rw [h3.nil.1 hT] at hh; cases hh), Lib.hid ⟨h2.base hW.size, HSN.out T h3⟩, h4⟩
        subst e
        have hj0 : 0 ≤ (j : Int) := by omega
        have hmi : (j : Int) < m := by omega
        clear hc hjl hmem hbw HSN
        generalize x.isN = isn at HCALL
        generalize x.k = xk at d0 HCALL
        generalize x.c = xcc at d1 HCALL
        generalize x.n = xn at d2 HCALL
        generalize x.s = xs at d3 HCALL
        generalize x.kids = xv at d4 HCALL
        have HG : Hid (∀ W, Below wr.heap.size wr W → Calls Tryd.prog 10 #[.agg #[.int .i64 xk, .int .i64 xcc, .int .i64 xn, .string xs, xv]] W fun e w' => e = .returned .nilIface ∧ Hid (∃ T, T.val a = .nilIface ∧ Foot a wr.heap.size (fun _ => False) w' T ∧ Likes (L.take (j + 1)) (Ts ++ [T])) ∧ Below W.heap.size W w') ∨ Hid (∀ W, Below wr.heap.size wr W → Calls Tryd.prog 10 #[.agg #[.int .i64 xk, .int .i64 xcc, .int .i64 xn, .string xs, xv]] W fun e w' => ∃ t u, e = .returned (.iface t u) ∧ Hid (∃ T, T.val a = .iface t u ∧ Foot a wr.heap.size (fun _ => False) w' T ∧ Likes (L.take (j + 1)) (Ts ++ [T])) ∧ Below W.heap.size W w') := by
          cases isn with
          | true =>
            refine .inl (Lib.hid fun W hb => (HCALL.out W hb).mono ?_)
            rintro e w' ⟨T, h1, h2, h3, h4, h5⟩
            exact ⟨h1.trans (by rw [h2 rfl]), Lib.hid ⟨T, h2 rfl, h4.out⟩, h5⟩
          | false =>
            refine .inr (Lib.hid fun W hb => (HCALL.out W hb).mono ?_)
            rintro e w' ⟨T, h1, h2, h3, h4, h5⟩
            obtain ⟨t, u, h6⟩ := h3 rfl
            exact ⟨t, u, h1.trans (by rw [h6]), Lib.hid ⟨T, h6, h4.out⟩, h5⟩
        clear HCALL
        have HTL : Hid (Ts.length + 1 ≤ maxLen ∧ (Ts.length + 1) * 16 ≤ 140737488355328) := Lib.hid ⟨by rw [HL.out.2]; simp only [maxLen]; omega, by rw [HL.out.2]; omega⟩
        rcases HG with HG | HG
        · go_wp2_with (first | (go_at_call 10; refine (HG.out _ (Below.refl _ _)).mono ?_; rintro e w2 ⟨rfl, HT, hb7⟩; have hM2 := Lib.hid (HI.out.below hb7)) | (at_builtin; refine wpList_append_lies _ rfl (.tmp 19) (.tmp 25) 60 rfl w1.heap.size 27 i0 .nilIface 1 16 Tryd.underlying60 hi hz0 hz1 hz2 rfl (by decide) _ Ts.length (Ts.map (ET.val a)) rfl (hM2.out.o.alloc _) ⟨w2.heap.size, 0, none⟩ 1 1 [.nilIface] rfl rfl (news1 _ _ _) (by intro q hq; simp at hq; subst hq; rfl) (by decide) HTL.out.1 HTL.out.2 (by have := hM2.out.b.size; simp; omega) (w2.heap.size + 1) (by simp) ?_; intro g cap1 w4 hown hgr hat hlt4; have hmf := Lib.hid (list_fin HI.out HL.out.2 hb7 HT.out hown hgr hat); clear hown hgr hat hlt4))
          obtain ⟨Ts', h1, h2, h3⟩ := hmf.out
          go_roundw
          case rel => exact ⟨j + 1, Ts', by go_num, by omega, Lib.hid ⟨h1, h2⟩, Lib.hid h3⟩
          case measure => simp only [intOf]; omega
        · go_wp2_with (first | (go_at_call 10; refine (HG.out _ (Below.refl _ _)).mono ?_; rintro e w2 ⟨t, u, rfl, HT, hb7⟩; have hM2 := Lib.hid (HI.out.below hb7)) | (at_builtin; refine wpList_append_lies _ rfl (.tmp 19) (.tmp 25) 60 rfl w1.heap.size 27 i0 .nilIface 1 16 Tryd.underlying60 hi hz0 hz1 hz2 rfl (by decide) _ Ts.length (Ts.map (ET.val a)) rfl (hM2.out.o.alloc _) ⟨w2.heap.size, 0, none⟩ 1 1 [.iface t u] rfl rfl (news1 _ _ _) (by intro q hq; simp at hq; subst hq; rfl) (by decide) HTL.out.1 HTL.out.2 (by have := hM2.out.b.size; simp; omega) (w2.heap.size + 1) (by simp) ?_; intro g cap1 w4 hown hgr hat hlt4; have hmf := Lib.hid (list_fin HI.out HL.out.2 hb7 HT.out hown hgr hat); clear hown hgr hat hlt4))
          obtain ⟨Ts', h1, h2, h3⟩ := hmf.out
          go_roundw
          case rel => exact ⟨j + 1, Ts', by go_num, by omega, Lib.hid ⟨h1, h2⟩, Lib.hid h3⟩
          case measure => simp only [intOf]; omega
      · obtain rfl : m = j := by omega
        have hLT : Likes L Ts := by have := HL.out.1; rwa [List.take_of_length_le (by rw [HM.out]; exact Nat.le_refl _)] at this
        obtain ⟨hll, hlike⟩ := Likes.at (l := []) hLT
        have hTs : Ts.length = m := HL.out.2
        have h28 := First_any a _ Ts wr HI.out.row
        obtain ⟨A', cap', hu3, r1, r2, r3⟩ := first_row HI.out.row
        rw [hTs] at hu3 r1
        have HHT := Lib.hid HI.out.holds
        have hwr : Below w.heap.size w wr := HB1.out.trans (HI.out.b.mono hlb)
        subst hu3
        have HFF : Hid (∃ F, F = (firstT Ts).val a) := Lib.hid ⟨_, rfl⟩
        obtain ⟨F, hF⟩ := HFF.out
        rw [← hF] at h28
        have HF := Lib.hid hF
        have HTS := Lib.hid hTs
        have HLIKE := Lib.hid hlike
        clear hLT HL HI hF hTs hlike HFF hll
        go_upto_region 10 with (go_at_call 28; refine h28.mono ?_; rintro e wf ⟨rfl, hbf⟩)
        have hwf := trans_b hwr hbf
        have HWF := Lib.hid hwf
        have HLIST : Hid (∀ q (h : q < Ts.length), ∃ g, A' = some ⟨g, 0, none⟩ ∧ ∀ W, Below wf.heap.size wf W → W.cell? ⟨g, q, none⟩ = some ((Ts[q]).val a)) := Lib.hid fun q h => by
          obtain ⟨g, e, hg⟩ := r3 q h
          exact ⟨g, e, fun W hW => keep1 (trans_b hbf hW) hg⟩
        have HNODE : Hid (∀ j (hj : j < L.length), ∃ b off, A = some ⟨b, off, none⟩ ∧ ∀ W, Below wf.heap.size wf W → W.cell? ⟨b, off + j * 5, none⟩ = some (.int .i64 (L[j]).k) ∧ W.cell? ⟨b, off + j * 5 + 1, none⟩ = some (.int .i64 (L[j]).c) ∧ W.cell? ⟨b, off + j * 5 + 2, none⟩ = some (.int .i64 (L[j]).n) ∧ W.cell? ⟨b, off + j * 5 + 3, none⟩ = some (.string (L[j]).s) ∧ W.cell? ⟨b, off + j * 5 + 4, none⟩ = some (L[j]).kids) := Lib.hid fun j hj => by
          obtain ⟨b, off, e, _, h⟩ := HCELL.out j hj
          exact ⟨b, off, e, fun W hW => h W (trans_b HWF.out hW)⟩
        have HIN2 : Hid (∀ x, x ∈ L → ∀ W, Below wf.heap.size wf W → In W x) := Lib.hid fun x hx W hW => HIN.out x hx W (trans_b HWF.out hW)
        have H14b : Hid (∀ W, Below wf.heap.size wf W → Calls Tryd.prog 14 #[] W fun e w' => e = .returned (.bool true) ∧ Below W.heap.size W w') := Lib.hid fun W hb => H14.out W (trans_b HWF.out hb)
        have HHW : Hid (∀ W, Below wf.heap.size wf W → Errs a W ∧ ∀ T, T ∈ Ts → Holds a W T) := Lib.hid fun W hb => ⟨(HS.out W (trans_b HWF.out hb)).e, fun T hT => (HHT.out T hT).below (trans_b hbf hb)⟩
        have HB0 := Lib.hid (Below.refl wf.heap.size wf)
        clear hwr hbf hwf r3 h28 HHT HCELL HIN H14 HS
        obtain ⟨wo, rfl⟩ : ∃ wo, wo = wr := ⟨_, rfl⟩
        go_loopw [6] (fun i W => ∃ k : Nat, i = .int .i64 k ∧ k ≤ m ∧ Hid (∀ i (h : i < L.length), i < k → (L[i]).isN = true) ∧ Hid (Below wf.heap.size wf W)) (fun i _ => m - (intOf i).toNat)
        case atStart => exact ⟨0, rfl, by omega, Lib.hid (fun i h h2 => by omega), HB0⟩
        case round =>
          clear HB0
          obtain ⟨k, rfl, hk, HN, HW⟩ := hrel
          have hj0 : 0 ≤ (k : Int) := by omega
          by_cases hlt2 : k < m
          · have hkl : k < L.length := by rw [HM.out]; exact hlt2
            have hmi : (k : Int) < m := by omega
            obtain ⟨b, off, e, hc⟩ := HNODE.out k hkl
            have h29 := fun W => isN_any (L[k]) W
            obtain ⟨d0, d1, d2, d3, d4⟩ := hc wr HW.out
            have HK0 := Lib.hid hc
            clear hc
            cases hisn : (L[k]).isN with
            | true =>
              have HN2 : Hid (∀ i (h : i < L.length), i < k + 1 → (L[i]).isN = true) := Lib.hid fun i h h2 => by
                by_cases h3 : i < k
                · exact HN.out i h h3
                · obtain rfl : i = k := by omega
                  exact hisn
              unfold ND.agg at h29
              rw [hisn] at h29
              have H29 := Lib.hid h29
              clear h29 HK0 HN hisn
              subst e
              generalize (L[k]).k = xk at d0 H29
              generalize (L[k]).c = xcc at d1 H29
              generalize (L[k]).n = xn at d2 H29
              generalize (L[k]).s = xs at d3 H29
              generalize (L[k]).kids = xv at d4 H29
              go_wp2_with (go_at_call 29; refine (H29.out _).mono ?_; rintro e w3 ⟨rfl, hb3⟩)
              have HW3 := Lib.hid (trans_b HW.out hb3)
              go_roundw
              case rel => exact ⟨k + 1, by go_num, by omega, HN2, HW3⟩
              case measure => simp only [intOf]; omega
            | false =>
              have hkt : k < Ts.length := by rw [HTS.out]; exact hlt2
              have hlk := HLIKE.out k hkl hkt
              have hnn : Ts[k] ≠ .nil := fun e => by rw [hlk.nil.1 e] at hisn; cases hisn
              have hft : firstT Ts = Ts[k] := by
                rw [firstT_skip k (by omega) fun i h h2 => (HLIKE.out i (by rw [HM.out, ← HTS.out]; exact h) h).nil.2 (HN.out i _ h2), List.drop_eq_getElem_cons hkt, firstT_some hnn]
              have hF2 : F = (Ts[k]).val a := HF.out.trans (by rw [hft])
              have H17 : Hid (∀ W, Below wf.heap.size wf W → Calls Tryd.prog 17 #[F, .int .i64 (L[k]).codeR, .int .i64 (atK (fndK (L[k]).fnd)), .string (pathK (fndK (L[k]).fnd)), .bool (okK (fndK (L[k]).fnd))] W fun e w' => e = .returned (.bool true) ∧ Below W.heap.size W w') := Lib.hid fun W hW => by
                have := has_yes a (Ts[k]) W (HHW.out W hW).1 ((HHW.out W hW).2 _ (List.getElem_mem hkt))
                rw [hlk.code, atO_K, pathO_K, okO_K, hlk.fa] at this
                rw [hF2]; exact this
              have H12 : Hid (∀ W, Below wf.heap.size wf W → Calls Tryd.prog 12 #[F, .int .i64 (L[k]).codeR, .int .i64 (atK (fndK (L[k]).fnd)), .string (pathK (fndK (L[k]).fnd)), .bool (okK (fndK (L[k]).fnd))] W fun e w' => e = .returned (.bool true) ∧ Below W.heap.size W w') := Lib.hid fun W hW => by
                have := tells_yes a (Ts[k]) W (HHW.out W hW).1 ((HHW.out W hW).2 _ (List.getElem_mem hkt))
                rw [hlk.code, atO_K, pathO_K, okO_K, hlk.fa] at this
                rw [hF2]; exact this
              have H11 : Hid (∀ W, Below wf.heap.size wf W → Calls Tryd.prog 11 #[(L[k]).agg] W fun e w' => e = .returned (.tuple #[.int .i64 (atK (fndK (L[k]).fnd)), .string (pathK (fndK (L[k]).fnd)), .bool (okK (fndK (L[k]).fnd))]) ∧ Below W.heap.size W w') := Lib.hid fun W hW => of_walk (L[k]) W (HIN2.out _ (List.getElem_mem hkl) W hW)
              have H13 : Hid (∀ W, Below wf.heap.size wf W → Calls Tryd.prog 13 #[(L[k]).agg] W fun e w' => e = .returned (.int .i64 (L[k]).codeR) ∧ Below W.heap.size W w') := Lib.hid fun W hW => code_walk (L[k]) W (HIN2.out _ (List.getElem_mem hkl) W hW)
              obtain ⟨t0, u0, hval⟩ := val_nil a _ hnn
              have hF3 : F = .iface t0 u0 := hF2.trans hval
              unfold ND.agg at h29 H11 H13
              rw [hisn] at h29
              have H29 := Lib.hid h29
              subst e
              clear h29 hisn hlk hnn hft hF2 HF HN hval
              subst hF3
              generalize (L[k]).codeR = cd at H17 H12 H13
              generalize atK (fndK (L[k]).fnd) = xa at H17 H12 H11
              generalize pathK (fndK (L[k]).fnd) = xp at H17 H12 H11
              generalize okK (fndK (L[k]).fnd) = xo at H17 H12 H11
              generalize (L[k]).k = xk at d0 H29 H11 H13 HK0
              generalize (L[k]).c = xcc at d1 H29 H11 H13 HK0
              generalize (L[k]).n = xn at d2 H29 H11 H13 HK0
              generalize (L[k]).s = xs at d3 H29 H11 H13 HK0
              generalize (L[k]).kids = xv at d4 H29 H11 H13 HK0
              go_upto_region 13 with (go_at_call 29; refine (H29.out _).mono ?_; rintro e w3 ⟨rfl, hb3⟩)
              have HB3 := Lib.hid (trans_b HW.out hb3)
              clear hb3 d0 d1 d2 d3 d4 H29
              obtain ⟨wk, rfl⟩ : ∃ wk, wk = wr := ⟨_, rfl⟩
              go_loopw [7] (fun i W => ∃ q : Nat, i = .int .i64 q ∧ q ≤ m ∧ Hid (Below wf.heap.size wf W)) (fun i _ => m - (intOf i).toNat)
              case atStart => exact ⟨0, rfl, by omega, HB3⟩
              case round =>
                obtain ⟨q, rfl, hq, HQ⟩ := hrel
                by_cases hlt3 : q < m
                · have hql : q < L.length := by rw [HM.out]; exact hlt3
                  have hqt : q < Ts.length := by rw [HTS.out]; exact hlt3
                  have hq0 : 0 ≤ (q : Int) := by omega
                  have hqm : (q : Int) < m := by omega
                  obtain ⟨b1, off1, e1, hc1⟩ := HNODE.out q hql
                  obtain ⟨g1, e2, hg1⟩ := HLIST.out q hqt
                  have hlk1 := HLIKE.out q hql hqt
                  have h29 := fun W => isN_any (L[q]) W
                  unfold ND.agg at h29
                  obtain ⟨rfl, rfl⟩ : b1 = b ∧ off1 = off := by simpa using e1.symm
                  subst e2
                  have hv : (Hid (∀ W, Below wf.heap.size wf W → W.cell? ⟨g1, q, none⟩ = some .nilIface) ∧ (L[q]).isN = true) ∨ ∃ t u, Hid (∀ W, Below wf.heap.size wf W → W.cell? ⟨g1, q, none⟩ = some (.iface t u)) ∧ (L[q]).isN = false := by
                    by_cases hT : Ts[q] = .nil
                    · exact .inl ⟨Lib.hid fun W hW => by rw [hg1 W hW, hT]; rfl, hlk1.nil.1 hT⟩
                    · obtain ⟨t, u, h⟩ := val_nil a _ hT
                      exact .inr ⟨t, u, Lib.hid fun W hW => by rw [hg1 W hW, h], by cases h5 : (L[q]).isN with
                        | true => exact absurd (hlk1.nil.2 h5) hT
                        | false => rfl⟩
                  have H29b := Lib.hid h29
                  have HC1 := Lib.hid hc1
                  clear h29 hlk1 hg1 hc1
                  generalize (L[q]).isN = isn1 at H29b hv
                  generalize (L[q]).k = yk at H29b HC1
                  generalize (L[q]).c = yc at H29b HC1
                  generalize (L[q]).n = yn at H29b HC1
                  generalize (L[q]).s = ys at H29b HC1
                  generalize (L[q]).kids = yv at H29b HC1
                  have hBQ := HQ.out
                  rcases hv with ⟨HV, rfl⟩ | ⟨t1, u1, HV, rfl⟩
                  · go_upto_region 15 with fail
                    have HK1 : Hid (∀ W, Below wf.heap.size wf W → Below wf.heap.size wf W ∧ W.cell? ⟨g1, q, none⟩ = some (.nilIface) ∧ W.cell? ⟨b1, off1 + q * 5, none⟩ = some (.int .i64 yk) ∧ W.cell? ⟨b1, off1 + q * 5 + 1, none⟩ = some (.int .i64 yc) ∧ W.cell? ⟨b1, off1 + q * 5 + 2, none⟩ = some (.int .i64 yn) ∧ W.cell? ⟨b1, off1 + q * 5 + 3, none⟩ = some (.string ys) ∧ W.cell? ⟨b1, off1 + q * 5 + 4, none⟩ = some yv) := Lib.hid fun W hW => ⟨hW, HV.out W hW, HC1.out W hW⟩
                    go_region_held3 (fun W => Below wf.heap.size wf W ∧ W.cell? ⟨g1, q, none⟩ = some (.nilIface) ∧ W.cell? ⟨b1, off1 + q * 5, none⟩ = some (.int .i64 yk) ∧ W.cell? ⟨b1, off1 + q * 5 + 1, none⟩ = some (.int .i64 yc) ∧ W.cell? ⟨b1, off1 + q * 5 + 2, none⟩ = some (.int .i64 yn) ∧ W.cell? ⟨b1, off1 + q * 5 + 3, none⟩ = some (.string ys) ∧ W.cell? ⟨b1, off1 + q * 5 + 4, none⟩ = some yv)
                      (first | exact HK1.out _ hBQ.drew | exact HK1.out _ (trans_b hBX hb4) | assumption)
                      (first | (go_at_call 29; obtain ⟨hBX, z0, z1, z2, z3, z4, z5⟩ := (‹Below wf.heap.size wf _ ∧ _ ∧ _ ∧ _ ∧ _ ∧ _ ∧ _›); refine (H29b.out _).mono ?_; rintro e w4 ⟨rfl, hb4⟩))
                    have HQ2 := Lib.hid (trans_b hBX hb4)
                    go_wp2
                    go_roundw
                    case rel => exact ⟨q + 1, by go_num, by omega, HQ2⟩
                    case measure => simp only [intOf]; omega
                  · go_upto_region 15 with fail
                    have HK1 : Hid (∀ W, Below wf.heap.size wf W → Below wf.heap.size wf W ∧ W.cell? ⟨g1, q, none⟩ = some (.iface t1 u1) ∧ W.cell? ⟨b1, off1 + q * 5, none⟩ = some (.int .i64 yk) ∧ W.cell? ⟨b1, off1 + q * 5 + 1, none⟩ = some (.int .i64 yc) ∧ W.cell? ⟨b1, off1 + q * 5 + 2, none⟩ = some (.int .i64 yn) ∧ W.cell? ⟨b1, off1 + q * 5 + 3, none⟩ = some (.string ys) ∧ W.cell? ⟨b1, off1 + q * 5 + 4, none⟩ = some yv) := Lib.hid fun W hW => ⟨hW, HV.out W hW, HC1.out W hW⟩
                    go_region_held3 (fun W => Below wf.heap.size wf W ∧ W.cell? ⟨g1, q, none⟩ = some (.iface t1 u1) ∧ W.cell? ⟨b1, off1 + q * 5, none⟩ = some (.int .i64 yk) ∧ W.cell? ⟨b1, off1 + q * 5 + 1, none⟩ = some (.int .i64 yc) ∧ W.cell? ⟨b1, off1 + q * 5 + 2, none⟩ = some (.int .i64 yn) ∧ W.cell? ⟨b1, off1 + q * 5 + 3, none⟩ = some (.string ys) ∧ W.cell? ⟨b1, off1 + q * 5 + 4, none⟩ = some yv)
                      (first | exact HK1.out _ hBQ.drew | exact HK1.out _ (trans_b hBX hb4) | assumption)
                      (first | (go_at_call 29; obtain ⟨hBX, z0, z1, z2, z3, z4, z5⟩ := (‹Below wf.heap.size wf _ ∧ _ ∧ _ ∧ _ ∧ _ ∧ _ ∧ _›); refine (H29b.out _).mono ?_; rintro e w4 ⟨rfl, hb4⟩))
                    have HQ2 := Lib.hid (trans_b hBX hb4)
                    go_wp2
                    go_roundw
                    case rel => exact ⟨q + 1, by go_num, by omega, HQ2⟩
                    case measure => simp only [intOf]; omega
                · obtain rfl : m = q := by omega
                  have hB5 := HQ.out
                  obtain ⟨d0, d1, d2, d3, d4⟩ := HK0.out _ hB5
                  go_wp2_with (first | (go_at_call 11; refine (H11.out _ hB5).mono ?_; rintro e w5 ⟨rfl, hb⟩; replace hB5 := trans_b hB5 hb; clear hb d0 d1 d2 d3 d4; obtain ⟨d0, d1, d2, d3, d4⟩ := HK0.out _ hB5) | (go_at_call 13; refine (H13.out _ hB5).mono ?_; rintro e w5 ⟨rfl, hb⟩; replace hB5 := trans_b hB5 hb; clear hb d0 d1 d2 d3 d4; obtain ⟨d0, d1, d2, d3, d4⟩ := HK0.out _ hB5) | (go_at_call 17; refine (H17.out _ hB5).mono ?_; rintro e w5 ⟨rfl, hb⟩; replace hB5 := trans_b hB5 hb; clear hb d0 d1 d2 d3 d4; obtain ⟨d0, d1, d2, d3, d4⟩ := HK0.out _ hB5) | (go_at_call 12; refine (H12.out _ hB5).mono ?_; rintro e w5 ⟨rfl, hb⟩; replace hB5 := trans_b hB5 hb; clear hb d0 d1 d2 d3 d4; obtain ⟨d0, d1, d2, d3, d4⟩ := HK0.out _ hB5) | (go_at_call 14; refine (H14b.out _ hB5).mono ?_; rintro e w5 ⟨rfl, hb⟩; replace hB5 := trans_b hB5 hb))
                  go_ret
                  exact ⟨rfl, trans_b HWF.out hB5⟩
                  
          · obtain rfl : m = k := by omega
            have hF0 : F = .nilIface := by
              rw [HF.out, firstT_skip m (by rw [HTS.out]; exact Nat.le_refl _) fun i h h2 => (HLIKE.out i (by rw [HM.out, ← HTS.out]; exact h) h).nil.2 (HN.out i _ h2), List.drop_of_length_le (by rw [HTS.out]; exact Nat.le_refl _)]; rfl
            subst hF0
            have HB3 := HW
            clear HN
            go_upto_region 13 with fail
            obtain ⟨wk, rfl⟩ : ∃ wk, wk = wr := ⟨_, rfl⟩
            go_loopw [7] (fun i W => ∃ q : Nat, i = .int .i64 q ∧ q ≤ m ∧ Hid (Below wf.heap.size wf W)) (fun i _ => m - (intOf i).toNat)
            case atStart => exact ⟨0, rfl, by omega, HB3⟩
            case round =>
              obtain ⟨q, rfl, hq, HQ⟩ := hrel
              by_cases hlt3 : q < m
              · have hql : q < L.length := by rw [HM.out]; exact hlt3
                have hqt : q < Ts.length := by rw [HTS.out]; exact hlt3
                have hq0 : 0 ≤ (q : Int) := by omega
                have hqm : (q : Int) < m := by omega
                obtain ⟨b1, off1, e1, hc1⟩ := HNODE.out q hql
                obtain ⟨g1, e2, hg1⟩ := HLIST.out q hqt
                have hlk1 := HLIKE.out q hql hqt
                have h29 := fun W => isN_any (L[q]) W
                unfold ND.agg at h29
                subst e1
                subst e2
                have hv : (Hid (∀ W, Below wf.heap.size wf W → W.cell? ⟨g1, q, none⟩ = some .nilIface) ∧ (L[q]).isN = true) ∨ ∃ t u, Hid (∀ W, Below wf.heap.size wf W → W.cell? ⟨g1, q, none⟩ = some (.iface t u)) ∧ (L[q]).isN = false := by
                  by_cases hT : Ts[q] = .nil
                  · exact .inl ⟨Lib.hid fun W hW => by rw [hg1 W hW, hT]; rfl, hlk1.nil.1 hT⟩
                  · obtain ⟨t, u, h⟩ := val_nil a _ hT
                    exact .inr ⟨t, u, Lib.hid fun W hW => by rw [hg1 W hW, h], by cases h5 : (L[q]).isN with
                      | true => exact absurd (hlk1.nil.2 h5) hT
                      | false => rfl⟩
                have H29b := Lib.hid h29
                have HC1 := Lib.hid hc1
                clear h29 hlk1 hg1 hc1
                generalize (L[q]).isN = isn1 at H29b hv
                generalize (L[q]).k = yk at H29b HC1
                generalize (L[q]).c = yc at H29b HC1
                generalize (L[q]).n = yn at H29b HC1
                generalize (L[q]).s = ys at H29b HC1
                generalize (L[q]).kids = yv at H29b HC1
                have hBQ := HQ.out
                rcases hv with ⟨HV, rfl⟩ | ⟨t1, u1, HV, rfl⟩
                · go_upto_region 15 with fail
                  have HK1 : Hid (∀ W, Below wf.heap.size wf W → Below wf.heap.size wf W ∧ W.cell? ⟨g1, q, none⟩ = some (.nilIface) ∧ W.cell? ⟨b1, off1 + q * 5, none⟩ = some (.int .i64 yk) ∧ W.cell? ⟨b1, off1 + q * 5 + 1, none⟩ = some (.int .i64 yc) ∧ W.cell? ⟨b1, off1 + q * 5 + 2, none⟩ = some (.int .i64 yn) ∧ W.cell? ⟨b1, off1 + q * 5 + 3, none⟩ = some (.string ys) ∧ W.cell? ⟨b1, off1 + q * 5 + 4, none⟩ = some yv) := Lib.hid fun W hW => ⟨hW, HV.out W hW, HC1.out W hW⟩
                  go_region_held3 (fun W => Below wf.heap.size wf W ∧ W.cell? ⟨g1, q, none⟩ = some (.nilIface) ∧ W.cell? ⟨b1, off1 + q * 5, none⟩ = some (.int .i64 yk) ∧ W.cell? ⟨b1, off1 + q * 5 + 1, none⟩ = some (.int .i64 yc) ∧ W.cell? ⟨b1, off1 + q * 5 + 2, none⟩ = some (.int .i64 yn) ∧ W.cell? ⟨b1, off1 + q * 5 + 3, none⟩ = some (.string ys) ∧ W.cell? ⟨b1, off1 + q * 5 + 4, none⟩ = some yv)
                    (first | exact HK1.out _ hBQ.drew | exact HK1.out _ (trans_b hBX hb4) | assumption)
                    (first | (go_at_call 29; obtain ⟨hBX, z0, z1, z2, z3, z4, z5⟩ := (‹Below wf.heap.size wf _ ∧ _ ∧ _ ∧ _ ∧ _ ∧ _ ∧ _›); refine (H29b.out _).mono ?_; rintro e w4 ⟨rfl, hb4⟩))
                  have HQ2 := Lib.hid (trans_b hBX hb4)
                  go_wp2
                  go_roundw
                  case rel => exact ⟨q + 1, by go_num, by omega, HQ2⟩
                  case measure => simp only [intOf]; omega
                · go_upto_region 15 with fail
                  have HK1 : Hid (∀ W, Below wf.heap.size wf W → Below wf.heap.size wf W ∧ W.cell? ⟨g1, q, none⟩ = some (.iface t1 u1) ∧ W.cell? ⟨b1, off1 + q * 5, none⟩ = some (.int .i64 yk) ∧ W.cell? ⟨b1, off1 + q * 5 + 1, none⟩ = some (.int .i64 yc) ∧ W.cell? ⟨b1, off1 + q * 5 + 2, none⟩ = some (.int .i64 yn) ∧ W.cell? ⟨b1, off1 + q * 5 + 3, none⟩ = some (.string ys) ∧ W.cell? ⟨b1, off1 + q * 5 + 4, none⟩ = some yv) := Lib.hid fun W hW => ⟨hW, HV.out W hW, HC1.out W hW⟩
                  go_region_held3 (fun W => Below wf.heap.size wf W ∧ W.cell? ⟨g1, q, none⟩ = some (.iface t1 u1) ∧ W.cell? ⟨b1, off1 + q * 5, none⟩ = some (.int .i64 yk) ∧ W.cell? ⟨b1, off1 + q * 5 + 1, none⟩ = some (.int .i64 yc) ∧ W.cell? ⟨b1, off1 + q * 5 + 2, none⟩ = some (.int .i64 yn) ∧ W.cell? ⟨b1, off1 + q * 5 + 3, none⟩ = some (.string ys) ∧ W.cell? ⟨b1, off1 + q * 5 + 4, none⟩ = some yv)
                    (first | exact HK1.out _ hBQ.drew | exact HK1.out _ (trans_b hBX hb4) | assumption)
                    (first | (go_at_call 29; obtain ⟨hBX, z0, z1, z2, z3, z4, z5⟩ := (‹Below wf.heap.size wf _ ∧ _ ∧ _ ∧ _ ∧ _ ∧ _ ∧ _›); refine (H29b.out _).mono ?_; rintro e w4 ⟨rfl, hb4⟩))
                  have HQ2 := Lib.hid (trans_b hBX hb4)
                  go_wp2
                  go_roundw
                  case rel => exact ⟨q + 1, by go_num, by omega, HQ2⟩
                  case measure => simp only [intOf]; omega
              · obtain rfl : m = q := by omega
                have hB5 := HQ.out
                go_wp2_with (go_at_call 14; refine (H14b.out _ hB5).mono ?_; rintro e w5 ⟨rfl, hb⟩; replace hB5 := trans_b hB5 hb)
                go_ret
                exact ⟨rfl, trans_b HWF.out hB5⟩
                
end Go.Proofs.YtfjgjhicinaolaaDoor
