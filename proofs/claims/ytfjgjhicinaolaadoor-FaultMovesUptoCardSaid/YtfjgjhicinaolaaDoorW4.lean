/- What build makes of a Node that wraps many. -/
import Derived.Test.YtfjgjhicinaolaaDoorW3
import Derived.Deep.AppendLies
import Derived.Laws.Rows
import Derived.IntWalk
import Derived.Deep.RegionLaw
namespace Go.Proofs.YtfjgjhicinaolaaDoor
open Go.RowKit Go.Extern.Stop Go.Stop Go.Extern
set_option maxRecDepth 100000
set_option linter.unusedVariables false
set_option linter.unusedSimpArgs false
set_option linter.unnecessarySimpa false

/-- What holds of the errors that are collected. -/
structure ManyI (a : Nat → Addr) (w0 : World) (v : Value) (Ts : List ET) (W : World) : Prop where
  b : Below w0.heap.size w0 W
  m : W.heap[w0.heap.size]? = some (.cells #[v] 72 (0, 0))
  o : W.ownsRow w0.heap.size 27 1 v Ts.length (Ts.map (ET.val a))
  f : ∀ T, T ∈ Ts → Foot a w0.heap.size (fun b => b = w0.heap.size ∨ some b = v.ownBlock) W T
theorem lt_of_blk {w : World} {g : Nat} {o : Obj} (h : w.heap[g]? = some o) : g < w.heap.size := (Array.getElem?_eq_some_iff.1 h).1
theorem own_blk {w : World} {base n g : Nat} {e : TypeId} {v : Value} {xs : List Value} (h : w.ownsRow base e 1 v n xs) (hg : v.ownBlock = some g) : base ≤ g ∧ ∃ cs, w.heap[g]? = some (.cells cs e (0, 0)) := by
  rcases h.2 with ⟨rfl, _⟩ | ⟨g', cap, cur, rfl, hb, hh, _⟩
  · simp [Value.ownBlock] at hg
  · simp only [Value.ownBlock, Option.some.injEq] at hg
    subst hg
    exact ⟨hb, cur, hh⟩
theorem own_copy {w w1 : World} {base n : Nat} {e : TypeId} {v : Value} {xs : List Value} (h : w.ownsRow base e 1 v n xs) (hb : ∀ g, v.ownBlock = some g → w1.heap[g]? = w.heap[g]?) : w1.ownsRow base e 1 v n xs := by
  refine ⟨h.1, ?_⟩
  rcases h.2 with h2 | ⟨g, cap, cur, rfl, h1, hh, r⟩
  · exact .inl h2
  · exact .inr ⟨g, cap, cur, rfl, h1, (hb g (by simp [Value.ownBlock])).trans hh, r⟩
theorem ManyI.below {a : Nat → Addr} {w0 : World} {v : Value} {Ts : List ET} {W w1 : World} (h : ManyI a w0 v Ts W) (hb : Below W.heap.size W w1) : ManyI a w0 v Ts w1 :=
  ⟨h.b.trans (hb.mono h.b.size), (hb.block _ (lt_of_blk h.m)).trans h.m, own_copy h.o fun g hg => by obtain ⟨_, cs, hh⟩ := own_blk h.o hg; exact hb.block _ (lt_of_blk hh), fun T hT => (h.f T hT).below hb⟩
theorem many_step {a : Nat → Addr} {w0 : World} {v : Value} {Ts : List ET} {W w2 : World} {T : ET} (h : ManyI a w0 v Ts W) (hb : Below W.heap.size W w2) (hF : Foot a W.heap.size (fun _ => False) w2 T) {g cap : Nat} {w4 : World}
    (hown : w4.ownsRow w0.heap.size 27 1 (.slice (some ⟨g, 0, none⟩) (Ts.length + 1) cap) (Ts.length + 1) (Ts.map (ET.val a) ++ [T.val a])) (hgr : (w2.alloc (.cells #[T.val a] 27)).grownBy w4 v.ownBlock) (hat : v.ownBlock = some g ∨ g = w2.heap.size + 1) :
    ManyI a w0 (.slice (some ⟨g, 0, none⟩) (Ts.length + 1) cap) (Ts ++ [T]) (w4.setCell ⟨w0.heap.size, 0, none⟩ (.slice (some ⟨g, 0, none⟩) (Ts.length + 1) cap)) := by
  have hW2 := h.below hb
  have hm := hW2.m
  have hml := lt_of_blk hm
  have hsz : (w2.alloc (.cells #[T.val a] 27)).heap.size = w2.heap.size + 1 := by simp
  have hold : ∀ k, k < w2.heap.size → (w2.alloc (.cells #[T.val a] 27)).heap[k]? = w2.heap[k]? := fun k hk => Below.heap_alloc w2 _ k hk
  have hmv : ∀ k, v.ownBlock = some k → k ≠ w0.heap.size := by
    intro k hk e
    obtain ⟨_, cs, hh⟩ := own_blk hW2.o hk
    subst e
    rw [hm] at hh
    simp at hh
  have hgm : g ≠ w0.heap.size := by
    rcases hat with hat | rfl
    · exact hmv g hat
    · omega
  have h4 : ∀ k, k < w2.heap.size → some k ≠ v.ownBlock → w4.heap[k]? = w2.heap[k]? := fun k hk hne => (hgr.block k (by omega) hne).trans (hold k hk)
  have hm4 : w4.heap[w0.heap.size]? = some (.cells #[v] 72 (0, 0)) := (h4 _ hml (fun e => hmv _ e.symm rfl)).trans hm
  have hs4 : w2.heap.size + 1 ≤ w4.heap.size := by have := hgr.size; omega
  have hgw : v.ownBlock = some g → g < w2.heap.size := fun e => by obtain ⟨_, cs, hh⟩ := own_blk hW2.o e; exact lt_of_blk hh
  have hB4 : Below w0.heap.size w0 w4 := by
    refine ((hW2.b).alloc hW2.b.size (.cells #[T.val a] 27)).grown hgr (by have := hW2.b.size; omega) fun k hk => ?_
    exact (own_blk hW2.o hk).1
  refine ⟨hB4.setCell (p := ⟨w0.heap.size, 0, none⟩) (Nat.le_refl _) _, ?_, ?_, ?_⟩
  · rw [heap_setCell_same w4 _ 0 _ 72 _ hm4]; rfl
  · have := own_copy (w1 := w4.setCell ⟨w0.heap.size, 0, none⟩ (.slice (some ⟨g, 0, none⟩) (Ts.length + 1) cap)) hown fun g' hg' => by
      simp only [Value.ownBlock, Option.some.injEq] at hg'
      subst hg'
      exact Below.heap_setCell w4 _ _ g hgm
    simpa using this
  · have hA : ∀ (base : Nat) (no : Nat → Prop), (∀ b, (b = w0.heap.size ∨ some b = v.ownBlock) → no b) → ∀ W', Agree base (fun b => b = w0.heap.size ∨ some b = (Value.slice (some ⟨g, 0, none⟩) (Ts.length + 1) cap).ownBlock) (w4.setCell ⟨w0.heap.size, 0, none⟩ (.slice (some ⟨g, 0, none⟩) (Ts.length + 1) cap)) W' → Agree base no w2 W' := by
      intro base no hno W' hW b h1 h2 h3
      have hb1 : b ≠ w0.heap.size := fun e => h3 (hno b (.inl e))
      have hb2 : some b ≠ v.ownBlock := fun e => h3 (hno b (.inr e))
      have hbg : b ≠ g := by
        rintro rfl
        rcases hat with e | e
        · exact hb2 e.symm
        · omega
      refine (hW b h1 (by simp; omega) ?_).trans ((Below.heap_setCell w4 _ _ b hb1).trans (h4 b h2 hb2))
      rintro (e | e)
      · exact hb1 e
      · simp only [Value.ownBlock, Option.some.injEq] at e; exact hbg e
    intro T' hT'
    rcases List.mem_append.1 hT' with h1 | h1
    · exact fun W' hW => hW2.f T' h1 W' (hA _ _ (fun b hb => hb) W' hW)
    · obtain rfl : T' = T := by simpa using h1
      refine fun W' hW => hF W' fun b hb1 hb2 _ => ?_
      have h5 := h.b.size
      have hmW := lt_of_blk h.m
      refine hA w0.heap.size (fun b => b = w0.heap.size ∨ some b = v.ownBlock) (fun b hb => hb) W' hW b (by omega) hb2 ?_
      rintro (e | e)
      · omega
      · obtain ⟨_, cs, hh⟩ := own_blk h.o e.symm
        have := lt_of_blk hh
        omega
/-- All are collected. -/
theorem many_foot {a : Nat → Addr} {w0 : World} {v : Value} {Ts : List ET} {W : World} (h : ManyI a w0 v Ts W) : Foot a w0.heap.size (fun _ => False) W (.many w0.heap.size Ts) := by
  intro W' hA
  have hm : W'.heap[w0.heap.size]? = some (.cells #[v] 72 (0, 0)) := (hA _ (Nat.le_refl _) (lt_of_blk h.m) id).trans h.m
  have hall : ∀ T, T ∈ Ts → Holds a W' T ∧ PlainAs W' T := fun T hT => h.f T hT W' fun b h1 h2 _ => hA b h1 h2 id
  refine ⟨⟨⟨v, by rw [cell_new hm]; rfl, ?_⟩, HoldsL.of fun T hT => (hall T hT).1⟩, fun p n s e he => ?_⟩
  rotate_left
  · obtain ⟨x, h1, h2⟩ := asL_mem (show ET.asL Ts = _ from he)
    exact (hall x h1).2 p n s e h2
  rcases h.o.2 with ⟨rfl, h0⟩ | ⟨g, cap, cur, rfl, hb, hh, hc, hcm, hcs, htake⟩
  · refine .inl ⟨rfl, ?_⟩
    have : Ts = [] := List.length_eq_zero_iff.1 h0
    rw [this]; rfl
  · have hg : W'.heap[g]? = some (.cells cur 27 (0, 0)) := (hA g hb (lt_of_blk hh) id).trans hh
    refine .inr ⟨g, cap, by rw [List.length_map], by rw [List.length_map]; exact hc, hcm, fun i x hx => ?_⟩
    rw [cell_new hg]
    rw [← htake, List.getElem?_take] at hx
    split at hx
    · simpa using hx
    · cases hx

theorem many_fin {a : Nat → Addr} {w0 : World} {v u : Value} {Ts : List ET} {W w2 w4 : World} {j g cap : Nat} {l' : List ND} (h : ManyI a w0 v Ts W) (hj : Ts.length = j) (hb : Below W.heap.size W w2)
    (hT : ∃ T, T.val a = u ∧ Foot a W.heap.size (fun _ => False) w2 T ∧ Likes l' (Ts ++ [T]))
    (hown : w4.ownsRow w0.heap.size 27 1 (.slice (some ⟨g, 0, none⟩) (Ts.length + 1) cap) (Ts.length + 1) (Ts.map (ET.val a) ++ [u])) (hgr : (w2.alloc (.cells #[u] 27)).grownBy w4 v.ownBlock) (hat : v.ownBlock = some g ∨ g = w2.heap.size + 1) :
    ∃ Ts', Likes l' Ts' ∧ Ts'.length = j + 1 ∧ ManyI a w0 (.slice (some ⟨g, 0, none⟩) (Ts.length + 1) cap) Ts' (w4.setCell ⟨w0.heap.size, 0, none⟩ (.slice (some ⟨g, 0, none⟩) (Ts.length + 1) cap)) := by
  obtain ⟨T, rfl, h1, h2⟩ := hT
  exact ⟨Ts ++ [T], h2, by simp [hj], many_step h hb h1 hown hgr hat⟩
theorem many_at {a : Nat → Addr} {w0 : World} {v u : Value} {Ts : List ET} {W w2 w4 : World} (h : ManyI a w0 v Ts W) (hb : Below W.heap.size W w2) (hgr : (w2.alloc (.cells #[u] 27)).grownBy w4 v.ownBlock) :
    w4.cell? ⟨w0.heap.size, 0, none⟩ = some v ∧ w4.frozen? ⟨w0.heap.size, 0, none⟩ = false ∧ Below w0.heap.size w0 w4 := by
  have hW2 := h.below hb
  have hm := hW2.m
  have hml := lt_of_blk hm
  have hsz : (w2.alloc (.cells #[u] 27)).heap.size = w2.heap.size + 1 := by simp
  have hmv : some w0.heap.size ≠ v.ownBlock := by
    intro e
    obtain ⟨_, cs, hh⟩ := own_blk hW2.o e.symm
    rw [hm] at hh
    simp at hh
  have hm4 : w4.heap[w0.heap.size]? = some (.cells #[v] 72 (0, 0)) := ((hgr.block _ (by omega) hmv).trans (Below.heap_alloc w2 _ _ hml)).trans hm
  refine ⟨by rw [cell_new hm4]; rfl, Lib.frozen_of_heap hm4 _, ?_⟩
  exact ((hW2.b).alloc hW2.b.size (.cells #[u] 27)).grown hgr (by have := hW2.b.size; omega) fun k hk => (own_blk hW2.o hk).1
/-- What lies below w0 stays. -/
theorem keepB {w0 w W : World} (h : Below w0.heap.size w0 w) (k : Below w0.heap.size w0 W) {p : Addr} {x : Value} (hp : p.block < w0.heap.size) (hc : w.cell? p = some x) : W.cell? p = some x := by
  have e : W.heap[p.block]? = w.heap[p.block]? := (k.block _ hp).trans (h.block _ hp).symm
  exact cell_agree e hc
theorem news1 (w : World) (u : Value) (t : TypeId) : ∀ j x, [u][j]? = some x → (w.alloc (.cells #[u] t)).cell? ((⟨w.heap.size, 0, none⟩ : Addr).add j) = some x := by
  intro j x hj
  match j, hj with
  | 0, hj => simp at hj; subst hj; simp [Addr.add]
  | j + 1, hj => simp at hj
theorem info27 : (Tryd.prog.info? 27).map (fun i => (i.zero, i.size, i.bytes)) = some (some .nilIface, 1, 16) := by kernel_rfl
theorem keep_alloc {w : World} {p : Addr} {x : Value} (h : w.cell? p = some x) (o : Obj) : (w.alloc o).cell? p = some x := cell_agree (Below.heap_alloc w o _ (World.block_lt_of_cell? w _ h)) h
set_option maxHeartbeats 2000000 in
theorem build_many (a : Nat → Addr) (N : ND) (w : World) (hI : In w N) (hB : Builds a w N.l) (h : N.isN = false) (hk : N.k = 5) (hz : N.l.length ≤ 1099511627776) : Calls Tryd.prog 10 #[N.agg] w (BuildPost a N w) := by
  obtain ⟨i0, hi, hz0, hz1, hz2⟩ := info_parts info27
  have hb : Below w.heap.size w (w.alloc (.cells #[.int .i64 N.k, .int .i64 N.c, .int .i64 N.n, .string N.s, N.kids] 24)) := (Below.refl _ _).alloc (Nat.le_refl _) _
  obtain ⟨q1, q2, q3, q4⟩ := hI.parts
  have HBX := Lib.hid (box_cells N w)
  have HP : Hid (∀ (w0 : World) (v : Value) (Ts : List ET) (W : World), Below w.heap.size w w0 → Likes N.l Ts → ManyI a w0 v Ts W → BuildPost a N w (.returned (.iface 70 (.pointer (some ⟨w0.heap.size, 0, none⟩)))) W) := Lib.hid fun w0 v Ts W hb hL hM =>
    ⟨.many w0.heap.size Ts, rfl, (many_foot hM).base hb.size, like_many N h hk _ Ts hL, hb.trans (hM.b.mono hb.size)⟩
  unfold ND.agg
  unfold ND.kids at hb HBX ⊢
  generalize BuildPost a N w = BP at HP ⊢
  generalize hl : N.l = l at *
  have HB := Lib.hid hB
  have hs0 : (w.alloc (.cells #[.int .i64 N.k, .int .i64 N.c, .int .i64 N.n, .string N.s, .slice N.A l.length N.cap] 24)).heap.size = w.heap.size + 1 := by simp
  have HROW := Lib.hid q3
  obtain ⟨m, hm⟩ : ∃ m, l.length = m := ⟨_, rfl⟩
  rw [hm] at hb HBX hz hs0 ⊢
  have HM := Lib.hid hm
  generalize N.k = k at hb hs0 hk HBX ⊢
  generalize N.c = c at hb hs0 HBX ⊢
  generalize N.n = n at hb hs0 HBX ⊢
  generalize N.s = s at hb hs0 HBX ⊢
  generalize N.A = A at hb hs0 HBX HROW ⊢
  generalize N.cap = cap at hb hs0 HBX ⊢
  subst hk
  clear hB h hI q1 q2 q3 q4 hm hl
  go_enter Tryd.func10, Tryd.ntmps10
  go_upto_region 1 with fail
  show Code.wp _ _ _ _ (w.alloc (.cells #[.int .i64 5, .int .i64 c, .int .i64 n, .string s, .slice A m cap] 24))
  generalize (w.alloc (.cells #[.int .i64 5, .int .i64 c, .int .i64 n, .string s, .slice A m cap] 24)) = w0 at HBX hb hs0 ⊢
  have HSZ0 : Hid (w.heap.size < w0.heap.size) := Lib.hid (by omega)
  clear hs0
  obtain ⟨c0, c1, c2, c3, c4⟩ := HBX.out w0 (Below.refl _ _)
  have HB2 : Hid (∀ W, Below w0.heap.size w0 W → Below w.heap.size w W) := Lib.hid fun W h => trans_b hb h
  have HB0 := Lib.hid hb
  have HI0 : Hid (ManyI a w0 (.slice none 0 0) [] (w0.alloc (.cells #[.slice none 0 0] 72))) := Lib.hid ⟨(Below.refl _ _).alloc (Nat.le_refl _) _, new_at _ _ _, ⟨by simp, .inl ⟨rfl, rfl⟩⟩, fun T hT => by cases hT⟩
  clear hb
  go_wp2
  go_loopw [4] (fun i W => ∃ (j : Nat) (v : Value) (Ts : List ET), i = .int .i64 j ∧ j ≤ m ∧ Hid (Likes (l.take j) Ts ∧ Ts.length = j) ∧ Hid (ManyI a w0 v Ts W)) (fun i _ => m - (intOf i).toNat)
  case atStart => exact ⟨0, _, [], rfl, by omega, Lib.hid ⟨trivial, rfl⟩, HI0⟩
  case round =>
    clear c0 c1 c2 c3 c4 HI0
    obtain ⟨j, v, Ts, rfl, hj, HL, HI⟩ := hrel
    obtain ⟨c0, c1, c2, c3, c4⟩ := HBX.out _ HI.out.b
    clear c0 c1 c2 c3
    by_cases hlt : j < m
    · have hjl : j < l.length := by rw [HM.out]; exact hlt
      obtain ⟨b, off, e, hc⟩ : ∃ b off, A = some ⟨b, off, none⟩ ∧ ∀ i u, (l[j]).cells[i]? = some u → w.cell? ⟨b, off + j * 5 + i, none⟩ = some u := by
        rcases HROW.out with h | ⟨b, off, e, h⟩
        · rw [h] at hjl; simp at hjl
        · exact ⟨b, off, e, fun i u hu => h j hjl i u hu⟩
      have hmem : l[j] ∈ l := List.getElem_mem hjl
      have HSN : Hid (∀ T, Like (l[j]) T → Likes (l.take (j + 1)) (Ts ++ [T])) := Lib.hid fun T hT => by rw [List.take_succ_eq_append_getElem hjl]; exact Likes.snoc hT HL.out.1
      generalize l[j] = x at hc hmem HSN
      have hbw := HB2.out _ HI.out.b
      have d0 := keep1 hbw (hc 0 _ rfl)
      have d1 := keep1 hbw (hc 1 _ rfl)
      have d2 := keep1 hbw (hc 2 _ rfl)
      have d3 := keep1 hbw (hc 3 _ rfl)
      have d4 := keep1 hbw (hc 4 _ rfl)
      have dm : wr.cell? ⟨w0.heap.size, 0, none⟩ = some v := by rw [cell_new HI.out.m]; rfl
      have HCALL : Hid (∀ W, Below wr.heap.size wr W → Calls Tryd.prog 10 #[.agg #[.int .i64 x.k, .int .i64 x.c, .int .i64 x.n, .string x.s, x.kids]] W fun e w' => ∃ T, e = .returned (T.val a) ∧ (x.isN = true → T.val a = .nilIface) ∧ (x.isN = false → ∃ t u, T.val a = .iface t u) ∧ Hid (Foot a wr.heap.size (fun _ => False) w' T ∧ Likes (l.take (j + 1)) (Ts ++ [T])) ∧ Below W.heap.size W w') := Lib.hid fun W hW => by
        refine (HB.out x hmem W (trans_b hbw hW)).mono ?_
        rintro e w' ⟨T, h1, h2, h3, h4⟩
        exact ⟨T, h1, fun hh => by rw [h3.nil.2 hh]; rfl, fun hh => val_nil a T (fun hT => by rw [h3.nil.1 hT] at hh; cases hh), Lib.hid ⟨h2.base hW.size, HSN.out T h3⟩, h4⟩
      subst e
      have hbk : b < w.heap.size := World.block_lt_of_cell? w _ (hc 0 _ rfl)
      clear hc hjl hmem hbw HSN
      generalize x.isN = isn at HCALL
      generalize x.k = xk at d0 HCALL
      generalize x.c = xcc at d1 HCALL
      generalize x.n = xn at d2 HCALL
      generalize x.s = xs at d3 HCALL
      generalize x.kids = xv at d4 HCALL
      simp only [Nat.add_zero] at d0
      have hmi : (j : Int) < m := by omega
      have hj0 : 0 ≤ (j : Int) := by omega
      have HG : Hid (∀ W, Below wr.heap.size wr W → Calls Tryd.prog 10 #[.agg #[.int .i64 xk, .int .i64 xcc, .int .i64 xn, .string xs, xv]] W fun e w' => e = .returned .nilIface ∧ Hid (∃ T, T.val a = .nilIface ∧ Foot a wr.heap.size (fun _ => False) w' T ∧ Likes (l.take (j + 1)) (Ts ++ [T])) ∧ Below W.heap.size W w') ∨ Hid (∀ W, Below wr.heap.size wr W → Calls Tryd.prog 10 #[.agg #[.int .i64 xk, .int .i64 xcc, .int .i64 xn, .string xs, xv]] W fun e w' => ∃ t u, e = .returned (.iface t u) ∧ Hid (∃ T, T.val a = .iface t u ∧ Foot a wr.heap.size (fun _ => False) w' T ∧ Likes (l.take (j + 1)) (Ts ++ [T])) ∧ Below W.heap.size W w') := by
        cases isn with
        | true =>
          refine .inl (Lib.hid fun W hb => (HCALL.out W hb).mono ?_)
          rintro e w' ⟨T, h1, h2, h3, h4, h5⟩
          exact ⟨h1.trans (by rw [h2 rfl]), Lib.hid ⟨T, h2 rfl, h4.out⟩, h5⟩
        | false =>
          refine .inr (Lib.hid fun W hb => (HCALL.out W hb).mono ?_)
          rintro e w' ⟨T, h1, h2, h3, h4, h5⟩
          obtain ⟨t, u, h6⟩ := h3 rfl
          exact ⟨t, u, h1.trans (by rw [h6]), Lib.hid ⟨T, h6, h4.out⟩, h5⟩
      clear HCALL
      have hS0 : Below w0.heap.size w0 wr := HI.out.b
      have hlb : w.heap.size < w0.heap.size := HSZ0.out
      have hlk : b < w0.heap.size := Nat.lt_of_lt_of_le hbk HB0.out.size
      go_upto_region 15 with fail
      have HK : Hid (∀ W, Below w0.heap.size w0 W → Below w0.heap.size w0 W ∧ W.cell? ⟨w.heap.size, 4, none⟩ = some (.slice (some ⟨b, off, none⟩) m cap) ∧ W.cell? ⟨b, off + j * 5, none⟩ = some (.int .i64 xk) ∧ W.cell? ⟨b, off + j * 5 + 1, none⟩ = some (.int .i64 xcc) ∧ W.cell? ⟨b, off + j * 5 + 2, none⟩ = some (.int .i64 xn) ∧ W.cell? ⟨b, off + j * 5 + 3, none⟩ = some (.string xs) ∧ W.cell? ⟨b, off + j * 5 + 4, none⟩ = some xv) := Lib.hid fun W hW => ⟨hW, keepB hS0 hW hlb c4, keepB hS0 hW hlk d0, keepB hS0 hW hlk d1, keepB hS0 hW hlk d2, keepB hS0 hW hlk d3, keepB hS0 hW hlk d4⟩
      have HTL : Hid (Ts.length + 1 ≤ maxLen ∧ (Ts.length + 1) * 16 ≤ 140737488355328) := Lib.hid ⟨by rw [HL.out.2]; simp only [maxLen]; omega, by rw [HL.out.2]; omega⟩
      rcases HG with HG | HG
      · go_region_law (first | (refine step_append_lies _ rfl (.tmp 51) (.tmp 58) 60 rfl w0.heap.size 27 i0 .nilIface 1 16 Tryd.underlying60 hi hz0 hz1 hz2 rfl (by decide) v Ts.length (Ts.map (ET.val a)) (by simp [Act.eval, Act.put]) (hM2.out.o.alloc _) ⟨w2.heap.size, 0, none⟩ 1 1 [.nilIface] (by simp [Act.eval, Act.put]) rfl (news1 _ _ _) (by intro q hq; simp at hq; subst hq; rfl) (by decide) HTL.out.1 HTL.out.2 (by have := hM2.out.b.size; simp; omega) (w2.heap.size + 1) (by simp) ?_; intro g cap1 w4 hown hgr hat hlt4; have hmf := Lib.hid (many_fin HI.out HL.out.2 hb8 HT.out hown hgr hat); obtain ⟨xm4, xf4, hB4⟩ := many_at HI.out hb8 hgr; clear hown hgr hat hlt4) | (go_simp; go_at_call 10; refine (HG.out _ (Below.refl _ _).drew).mono ?_; rintro e w2 ⟨rfl, HT, hb7⟩; have xm := keep1 hb7 dm; have xm2 := keep_alloc xm (.cells #[.nilIface] 27); have hb8 := (Below.refl wr.heap.size wr).drew.trans hb7; have hM2 := Lib.hid (HI.out.below hb8)))
        all_goals (
          first | go_wp2 | (go_goals; fail)
          obtain ⟨Ts', h1, h2, h3⟩ := hmf.out
          go_roundw
          case rel => exact ⟨j + 1, _, Ts', by go_num, by omega, Lib.hid ⟨h1, h2⟩, Lib.hid h3⟩
          case measure => (simp only [intOf]; omega))
      · go_region_law (first | (refine step_append_lies _ rfl (.tmp 51) (.tmp 58) 60 rfl w0.heap.size 27 i0 .nilIface 1 16 Tryd.underlying60 hi hz0 hz1 hz2 rfl (by decide) v Ts.length (Ts.map (ET.val a)) (by simp [Act.eval, Act.put]) (hM2.out.o.alloc _) ⟨w2.heap.size, 0, none⟩ 1 1 [.iface t u] (by simp [Act.eval, Act.put]) rfl (news1 _ _ _) (by intro q hq; simp at hq; subst hq; rfl) (by decide) HTL.out.1 HTL.out.2 (by have := hM2.out.b.size; simp; omega) (w2.heap.size + 1) (by simp) ?_; intro g cap1 w4 hown hgr hat hlt4; have hmf := Lib.hid (many_fin HI.out HL.out.2 hb8 HT.out hown hgr hat); obtain ⟨xm4, xf4, hB4⟩ := many_at HI.out hb8 hgr; clear hown hgr hat hlt4) | (go_simp; go_at_call 10; refine (HG.out _ (Below.refl _ _).drew).mono ?_; rintro e w2 ⟨t, u, rfl, HT, hb7⟩; have xm := keep1 hb7 dm; have xm2 := keep_alloc xm (.cells #[.iface t u] 27); have hb8 := (Below.refl wr.heap.size wr).drew.trans hb7; have hM2 := Lib.hid (HI.out.below hb8)))
        all_goals (
          first | go_wp2 | (go_goals; fail)
          obtain ⟨Ts', h1, h2, h3⟩ := hmf.out
          go_roundw
          case rel => exact ⟨j + 1, _, Ts', by go_num, by omega, Lib.hid ⟨h1, h2⟩, Lib.hid h3⟩
          case measure => (simp only [intOf]; omega))
    · obtain rfl : m = j := by omega
      have HQ : Hid (BP (.returned (.iface 70 (.pointer (some ⟨w0.heap.size, 0, none⟩)))) wr) := Lib.hid (HP.out w0 v Ts wr HB0.out (by have := HL.out.1; rwa [List.take_of_length_le (by rw [HM.out]; exact Nat.le_refl _)] at this) HI.out)
      go_wp2
      exact HQ.out
end Go.Proofs.YtfjgjhicinaolaaDoor
