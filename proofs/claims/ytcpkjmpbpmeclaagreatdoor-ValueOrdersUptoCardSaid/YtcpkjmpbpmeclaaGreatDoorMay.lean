/- Xbb · Xba · Xca · Xcb · Xcc: merged. -/
import Derived.Test.YtcpkjmpbpmeclaaGreatDoorMaw
import Derived.Test.YtcpkjmpbpmeclaaGreatDoorMax
import Derived.Laws.MakeOwn
import Derived.Test.YtcpkjmpbpmeclaaGreatDoorMaa
import Derived.Test.YtcpkjmpbpmeclaaGreatDoorMae
namespace Go.Proofs.YtcpkjmpbpmeclaaGreatDoor
open Go.RowKit Go.Shelf
attribute [local go_sem] Oper.semAt_some
set_option maxRecDepth 100000
set_option linter.unusedVariables false
set_option linter.unusedSimpArgs false
set_option linter.unnecessarySimpa false

/-- What stands ahead of a round of Sort: 'ga': what is read, 'gb': what is written next. -/
structure Sortp (w W : World) (bc bo bs bn ga gb ca cb za zb n m : Nat) (cv : Value) (c' : ELp → ELp → Int) (L l : List ELp) : Prop where
 b : Below w.heap.size w W
 c : Boxed W bc 124 cv
 o : Boxed W bo 119 (.slice (some ⟨ga, 0, none⟩) m ca)
 s : Boxed W bs 119 (.slice (some ⟨gb, 0, none⟩) m cb)
 nn : Boxed W bn 3 (.int .i64 (n : Nat))
 ha : ∃ cur, W.heap[ga]? = some (.cells cur 123 (0, 0)) ∧ cur.size = za
 hb : ∃ cur, W.heap[gb]? = some (.cells cur 123 (0, 0)) ∧ cur.size = zb
 d : ga ≠ gb ∧ bc ≠ ga ∧ bc ≠ gb ∧ bo ≠ ga ∧ bo ≠ gb ∧ bs ≠ ga ∧ bs ≠ gb ∧ bo ≠ bs ∧ bc ≠ bo ∧ bc ≠ bs
 e : bc < bn ∧ bo < bn ∧ bs < bn ∧ ga < bn ∧ gb < bn
 f : w.heap.size ≤ bc ∧ w.heap.size ≤ bo ∧ w.heap.size ≤ bs ∧ w.heap.size ≤ ga ∧ w.heap.size ≤ gb
 z : m * 17 ≤ za ∧ m * 17 ≤ zb ∧ m ≤ ca ∧ m ≤ cb
 r : ERowp W ga 0 l
 S : SortS c' n L l
theorem Sortp.below {w W W' : World} {bc bo bs bn ga gb ca cb za zb n m : Nat} {cv : Value} {c' : ELp → ELp → Int} {L l : List ELp} (h : Sortp w W bc bo bs bn ga gb ca cb za zb n m cv c' L l) (hb : Below W.heap.size W W') :
  Sortp w W' bc bo bs bn ga gb ca cb za zb n m cv c' L l := by
 have kb : ∀ (b : Nat) (t : TypeId) (v : Value), Boxed W b t v → Boxed W' b t v := fun b t v hx => Eq.trans (hb.block b hx.lt) hx
 have kc : ∀ (b z : Nat), (∃ cur, W.heap[b]? = some (.cells cur 123 (0, 0)) ∧ cur.size = z) → ∃ cur, W'.heap[b]? = some (.cells cur 123 (0, 0)) ∧ cur.size = z := fun b z ⟨cur, h1, h2⟩ => ⟨cur, (hb.block b (Array.getElem?_eq_some_iff.1 h1).1).trans h1, h2⟩
 have hl : ga < W.heap.size := by obtain ⟨cur, h1, _⟩ := h.ha; exact (Array.getElem?_eq_some_iff.1 h1).1
 exact ⟨trans_b h.b hb, kb _ _ _ h.c, kb _ _ _ h.o, kb _ _ _ h.s, kb _ _ _ h.nn, kc _ _ h.ha, kc _ _ h.hb, h.d, h.e, h.f, h.z, h.r.keep (hb.block _ hl), h.S⟩
set_option maxHeartbeats 8000000 in
theorem sortp_any  (g off cap m : Nat) (c c' : ELp → ELp → Int) (L : List ELp) (w : World) (hm : L.length = m) (hm0 : 0 < m) (hm1 : m ≤ 1000000000) (hr : ERowp w g off L) (hc : Cmpp w  c L) (hO : OrdC c') (hst : Stab c c' L) :
  Calls Tryz.prog 130 #[.slice (some ⟨g, off, none⟩) m cap, (.func (.func 128) #[] #[])] w fun e w' => ∃ gb cap' csz R, e = .returned (.slice (some ⟨gb, 0, none⟩) m cap') ∧
   Hid (w.heap.size ≤ gb ∧ (∃ cur, w'.heap[gb]? = some (.cells cur 123 (0, 0)) ∧ cur.size = csz) ∧ ERowp w' gb 0 R ∧ SortedC c' R ∧ R.Perm L) ∧ Below w.heap.size w w' := by
 obtain ⟨i0, z0, hi, hz0, hz1, hz2, hzs⟩ := infop3
 obtain ⟨Z, hZ⟩ : ∃ Z, madeCells z0.cells (m * 17) = Z := ⟨_, rfl⟩
 have hZs : Z.size = m * 17 := by rw [← hZ]; exact size_madeCells _ _
 have hmk : ∀ W : World, (Instr.makeSlice 119 (.int .i64 (m : Nat)) (.int .i64 (m : Nat))).run Tryz.prog W = .ok (.slice (some ⟨W.heap.size, 0, none⟩) m m) (W.alloc (.cells Z 123)) := fun W => by
  have h := run_make (P := Tryz.prog) W 119 123 i0 z0 Tryz.underlying119 hi hz0 .i64 .i64 (m : Nat) (m : Nat) (by omega) (by omega) (by rw [hz2]; omega) (by omega)
  rw [Int.toNat_natCast, hz1, hZ] at h
  exact h
 have qf : ∀ w : World, (binOp .eql 124 (.func (.func 128) #[] #[]) .nilFunc).run Tryz.prog w = .ok (.bool false) w := fun w => by kernel_rfl
 have HCL : Hid (∀ W, Below w.heap.size w W → Calls Tryz.prog 191 #[.slice (some ⟨g, off, none⟩) m cap] W fun e w' => ∃ v gb cap csz, e = .returned v ∧ Hid (Rows W.heap.size w' m 17 123 v gb cap csz ∧ ERowp w' gb 0 L) ∧ Below W.heap.size W w') :=
  Lib.hid fun W hW => clonep_any g off cap m L W hm hm0 hm1 (fun i hi k u hu => keep1 hW (hr i hi k u hu))
 have HZS := Lib.hid hZs
 have HC := Lib.hid hc
 have HO := Lib.hid hO
 have HST := Lib.hid hst
 have HM := Lib.hid hm
 clear hZ hi hz0 hz1 hz2 hzs hr hc hO hst hm hZs
 refine (callsIn_wide (n := 6)).1 ?_
 refine callsIn_of_wp_marks Tryz.func130 rfl trivial ?_ rfl
 simp only [Tryz.ntmps130, List.size_toArray, List.length_cons, List.length_nil, Nat.reduceAdd, Nat.reduceSub, Array.replicate_succ, Array.replicate_zero, List.push_toArray, List.append_toArray, List.nil_append, List.cons_append]
 refine wpIn_wide.2 ?_
 have hB0 : Hid (Below w.heap.size w (w.alloc (.cells #[(.func (.func 128) #[] #[])] 124))) := Lib.hid ((Below.refl _ w).alloc (Nat.le_refl _) _)
 go_wp2_with (go_at_call 191; go_must (refine (HCL.out _ hB0.out).mono ?_); go_must (rintro e w1 ⟨v, gq, cq, zq, rfl, hRw, hb1⟩; have hsz1 := hb1.size; obtain ⟨⟨rfl, hga, hga2, hga3, hga4⟩, hrow⟩ := hRw.out; have HB1 := Lib.hid hb1; clear hb1 hRw))
 have START : Hid (Sortp w ((((w1.alloc (.cells #[.slice (some ⟨gq, 0, none⟩) m cq] 119)).alloc (.cells Z 123)).alloc (.cells #[.slice (some ⟨w1.heap.size + 1, 0, none⟩) m m] 119)).alloc (.cells #[.int .i64 1] 3)) w.heap.size w1.heap.size (w1.heap.size + 1 + 1) (w1.heap.size + 1 + 1 + 1) gq (w1.heap.size + 1) cq m zq Z.size 1 m (.func (.func 128) #[] #[]) c' L L) := Lib.hid (by
  have old : ∀ (X : World) (o : Obj) (i : Nat), i < X.heap.size → (X.alloc o).heap[i]? = X.heap[i]? := fun X o i hi => Below.heap_alloc X o i hi
  have new : ∀ (X : World) (o : Obj) (i : Nat), i = X.heap.size → (X.alloc o).heap[i]? = some o := fun X o i hi => by rw [hi]; exact heap_alloc_new X o
  have hgw : gq < w1.heap.size := by obtain ⟨cur, h, _⟩ := hga2; exact (Array.getElem?_eq_some_iff.1 h).1
  simp only [World.size_alloc] at hga hsz1
  have hs0 := hB0.out.size
  have hbb : Below w.heap.size w w1 := trans_b hB0.out HB1.out
  have old4 : ∀ i, i < w1.heap.size → ((((w1.alloc (.cells #[.slice (some ⟨gq, 0, none⟩) m cq] 119)).alloc (.cells Z 123)).alloc (.cells #[.slice (some ⟨w1.heap.size + 1, 0, none⟩) m m] 119)).alloc (.cells #[.int .i64 1] 3)).heap[i]? = w1.heap[i]? := fun i hi => by
   rw [old _ _ _ (by simp <;> omega), old _ _ _ (by simp <;> omega), old _ _ _ (by simp <;> omega), old _ _ _ hi]
  refine ⟨(((hbb.alloc hbb.size _).alloc (by simp; omega) _).alloc (by simp; omega) _).alloc (by simp; omega) _, ?_, ?_, ?_, ?_, ?_, ?_, ?_, ?_, ?_, ?_, fun i hi k u hu => ?_, sort_start c' L⟩
  ·exact (old4 _ (by omega)).trans ((HB1.out.block _ (by simp)).trans (heap_alloc_new w _))
  ·unfold Boxed
   rw [old _ _ _ (by simp <;> omega), old _ _ _ (by simp <;> omega), old _ _ _ (by simp <;> omega), new _ _ _ rfl]
  ·unfold Boxed
   rw [old _ _ _ (by simp <;> omega), new _ _ _ (by simp)]
  ·unfold Boxed
   rw [new _ _ _ (by simp)]
   rfl
  ·obtain ⟨cur, h1, h2⟩ := hga2
   exact ⟨cur, (old4 _ hgw).trans h1, h2⟩
  ·refine ⟨Z, ?_, rfl⟩
   rw [old _ _ _ (by simp <;> omega), old _ _ _ (by simp <;> omega), new _ _ _ (by simp)]
  ·omega
  ·omega
  ·omega
  ·exact ⟨hga3, by rw [HZS.out]; exact Nat.le_refl _, hga4, Nat.le_refl _⟩
  ·exact (World.cell?_of_block (a := ⟨gq, 0 + i * 17 + k, none⟩) (old4 _ hgw)).trans (hrow i hi k u hu))
 have MARK : Hid (MarkOk w.heap.size ((((w1.alloc (.cells #[.slice (some ⟨gq, 0, none⟩) m cq] 119)).alloc (.cells Z 123)).alloc (.cells #[.slice (some ⟨w1.heap.size + 1, 0, none⟩) m m] 119)).alloc (.cells #[.int .i64 1] 3)) []) := Lib.hid (MarkOk.nil _ _)
 generalize ((((w1.alloc (.cells #[.slice (some ⟨gq, 0, none⟩) m cq] 119)).alloc (.cells Z 123)).alloc (.cells #[.slice (some ⟨w1.heap.size + 1, 0, none⟩) m m] 119)).alloc (.cells #[.int .i64 1] 3)) = W0 at *
 clear hga2 hrow hsz1 hga hga3 hga4 HB1 hB0
 generalize w1.heap.size + 1 + 1 + 1 = bn0 at *
 generalize w1.heap.size + 1 + 1 = bs at *
 generalize w1.heap.size + 1 = g1 at *
 generalize w1.heap.size = bo at *
 refine wp_loop_ghost_k (fun k a W => ∃ (n bn ga gb ca cb za zb : Nat) (l : List ELp) (ds : List Deferred) (u18 u19 u20 u21 u22 u23 u24 u25 u26 u27 u28 u50 u51 u52 : Value), a = { tmps := #[.slice (some ⟨g, off, none⟩) m cap, (.func (.func 128) #[] #[]), undef, .pointer (some ⟨w.heap.size, 0, none⟩), .slice none 0 0, .pointer (some ⟨bo, 0, none⟩), .pointer (some ⟨bs, 0, none⟩), .pointer (some ⟨bn, 0, none⟩), undef, undef, undef, (.func (.func 128) #[] #[]), .bool false, .slice (some ⟨g, off, none⟩) m cap, .slice (some ⟨gq, 0, none⟩) m cq, .slice (some ⟨g, off, none⟩) m cap, .int .i64 (m : Nat), .slice (some ⟨g1, 0, none⟩) m m, u18, u19, u20, u21, u22, u23, u24, u25, u26, u27, u28, undef, undef, undef, undef, undef, undef, undef, undef, undef, undef, undef, undef, undef, undef, undef, undef, undef, undef, undef, undef, undef, u50, u51, u52, undef], defers := ds } ∧ k = 2 * m - n ∧ 1 ≤ n ∧ n ≤ 2 * m ∧ Hid (Sortp w W w.heap.size bo bs bn ga gb ca cb za zb n m (.func (.func 128) #[] #[]) c' L l) ∧ Hid (MarkOk w.heap.size W ds)) (2 * m - 1) ?st ?rd
 case st => exact ⟨1, bn0, gq, g1, cq, m, zq, Z.size, L, [], undef, undef, undef, undef, undef, undef, undef, undef, undef, undef, undef, undef, undef, undef, rfl, rfl, Nat.le_refl _, by omega, START, MARK⟩
 case rd =>
  rintro k a W ⟨n, bn, ga, gb, ca, cb, za, zb, l, ds, u18, u19, u20, u21, u22, u23, u24, u25, u26, u27, u28, u50, u51, u52, rfl, rfl, hn1, hn2, HS, HMK⟩ J KK hJ hKK
  have cN := HS.out.nn.cell
  have cO := HS.out.o.cell
  by_cases hlt : n < m
  ·have hlt' : (n : Int) < (m : Int) := by omega
   have hz2 : 2 * n ≤ 2000000000 := by omega
   go_wp2_with (go_at_call 192; go_must (refine (blocks_any m (2 * n) _).mono ?_); go_must (rintro e w' ⟨rfl, rfl⟩))
   have hmx : Tryz.prog.follows .mixedOrders = true := by kernel_rfl
   have hW1s : Hid (((W.alloc (.cells #[.int .i64 (m : Nat)] 3)).alloc (.cells #[.int .i64 (2 * (n : Int))] 3)).heap.size = W.heap.size + 1 + 1) := Lib.hid (by simp)
   have hW1b : Hid (Below W.heap.size W ((W.alloc (.cells #[.int .i64 (m : Nat)] 3)).alloc (.cells #[.int .i64 (2 * (n : Int))] 3))) := Lib.hid (((Below.refl _ W).alloc (Nat.le_refl _) _).alloc (by simp) _)
   have hb1 : Hid (((W.alloc (.cells #[.int .i64 (m : Nat)] 3)).alloc (.cells #[.int .i64 (2 * (n : Int))] 3)).heap[W.heap.size]? = some (.cells #[.int .i64 (m : Nat)] 3 (0, 0))) := Lib.hid (by
    rw [Below.heap_alloc _ _ _ (by simp)]; exact heap_alloc_new _ _)
   have hb2 : Hid (((W.alloc (.cells #[.int .i64 (m : Nat)] 3)).alloc (.cells #[.int .i64 (2 * (n : Int))] 3)).heap[W.heap.size + 1]? = some (.cells #[.int .i64 ((2 * n : Nat) : Int)] 3 (0, 0))) := Lib.hid (by
    have h := heap_alloc_new (W.alloc (.cells #[.int .i64 (m : Nat)] 3)) (.cells #[.int .i64 (2 * (n : Int))] 3)
    rw [World.size_alloc] at h
    rw [h]
    simp)
   generalize ((W.alloc (.cells #[.int .i64 (m : Nat)] 3)).alloc (.cells #[.int .i64 (2 * (n : Int))] 3)) = W1 at *
   have HS1 := Lib.hid (HS.out.below hW1b.out)
   have HMK1 := Lib.hid (HMK.out.keep (W' := W1) fun D h => (hW1b.out.block D (Array.getElem?_eq_some_iff.1 h).1).trans h)
   clear HMK cN cO
   refine (wpIn_wide (n := 6)).1 ?_
   refine wpIn_rangeFunc_ownG rfl (by omega) (gf := 221) (lb := #[.pointer (some ⟨W.heap.size, 0, none⟩), .pointer (some ⟨W.heap.size + 1, 0, none⟩)]) rfl trivial (enters_of Tryz.func221 (by kernel_rfl) rfl)
    (blocks_stops m (2 * n) hm1 (by omega) hz2 5 W.heap.size (by omega) W1 hb1.out hb2.out) (fun h k => h.trans k) (fun X l o o' hl ho hc hw => ⟨World.putObj_heap_other (by have := hW1s.out; omega), World.putObj_heap_other (by have := hW1s.out; omega)⟩) (Below.refl _ _) (fun _ => rfl)
    (fun pre X => Hid (SortJp w W1 X gb 123 zb c' n l pre.length (pre.map (·.1) = List.range pre.length)))
    (fun _ _ _ => False)
    (fun s X Y row hs hg hr => Lib.hid (hs.out.turn hg (fun r e => ⟨(hr r e).1, fun er => by
     obtain ⟨o, ho, hoc⟩ := (hr r e).2
     obtain ⟨cur, h1, _⟩ := hs.out.h
     rw [er, h1] at ho
     cases ho
     cases hoc⟩) HS1.out.b.size))
    (fun _ _ _ _ _ hs _ _ => hs)
    (Lib.hid (SortJp.start c' n l HS1.out.b HS1.out.hb _))
    (fun x => { tmps := #[.slice (some ⟨g, off, none⟩) m cap, (.func (.func 128) #[] #[]), undef, .pointer (some ⟨w.heap.size, 0, none⟩), .slice none 0 0, .pointer (some ⟨bo, 0, none⟩), .pointer (some ⟨bs, 0, none⟩), .pointer (some ⟨bn, 0, none⟩), .int .i64 ((x.1 * (2 * n) : Nat) : Int), .int .i64 ((min (x.1 * (2 * n) + 2 * n) m : Nat) : Int), undef, (.func (.func 128) #[] #[]), .bool false, .slice (some ⟨g, off, none⟩) m cap, .slice (some ⟨gq, 0, none⟩) m cq, .slice (some ⟨g, off, none⟩) m cap, .int .i64 (m : Nat), .slice (some ⟨g1, 0, none⟩) m m, .int .i64 (n : Nat), .slice (some ⟨g, off, none⟩) m cap, .int .i64 (m : Nat), .bool true, u22, u23, .slice (some ⟨g, off, none⟩) m cap, .int .i64 (m : Nat), .int .i64 (n : Nat), .int .i64 (2 * (n : Int)), .func (.func 221) #[] #[.pointer (some ⟨W.heap.size, 0, none⟩), .pointer (some ⟨W.heap.size + 1, 0, none⟩)], .int .i64 ((x.1 * (2 * n) : Nat) : Int), .int .i64 ((min (x.1 * (2 * n) + 2 * n) m : Nat) : Int), undef, undef, undef, undef, undef, undef, undef, undef, undef, undef, undef, undef, undef, undef, undef, undef, undef, undef, undef, u50, u51, u52, undef], defers := [] }) ?assign ?body ?done ?stop
   case assign =>
    intro lp x X K hK
    gi_wp2
    exact hK
   case stop =>
    rintro D c0 pre X _ _ h _
    exact h.elim
   case body =>
    intro lp pre x X HJ hlt2
    have hX := Lib.hid HJ.out.g
    obtain ⟨fr, hfr⟩ : ∃ fr, x.1 * (2 * n) = fr := ⟨_, rfl⟩
    obtain ⟨tt, htt⟩ : ∃ tt, min (fr + 2 * n) m = tt := ⟨_, rfl⟩
    have HX := Lib.hid (And.intro hfr (And.intro x.2 htt))
    have hfm : fr < m := by rw [← hfr]; exact x.2
    rw [hfr, htt]
    have htm : tt ≤ m := by omega
    have hft : fr < tt := by omega
    clear hfr htt
    have cX : ∀ (b : Nat) (t : TypeId) (v : Value), b < W1.heap.size → b ≠ gb → Boxed W1 b t v → Boxed X b t v := fun b t v h1 h2 h => Eq.trans (hX.out.block b h1 (fun e => h2 (by injection e))) h
    have hlt1 := hW1s.out
    have c1 := (cX _ _ _ HS1.out.c.lt HS1.out.d.2.2.1 HS1.out.c).cell
    have c2 := (cX _ _ _ HS1.out.o.lt HS1.out.d.2.2.2.2.1 HS1.out.o).cell
    have c3 := (cX _ _ _ HS1.out.s.lt HS1.out.d.2.2.2.2.2.2.1 HS1.out.s).cell
    have c4 := (cX _ _ _ HS1.out.nn.lt (by have := HS1.out.e; omega) HS1.out.nn).cell
    clear cX
    obtain ⟨md, hmd⟩ : ∃ md, min (fr + n) tt = md := ⟨_, rfl⟩
    have HMD := Lib.hid hmd
    have hmi : min ((fr : Int) + (n : Int)) (tt : Int) = (md : Int) := by omega
    have hfmd : (fr : Int) ≤ (md : Int) := by omega
    have hmdt : (md : Int) ≤ (tt : Int) := by omega
    have hfr0 : (0 : Int) ≤ (fr : Int) := by omega
    have hmd0 : (0 : Int) ≤ (md : Int) := by omega
    have htt0 : (0 : Int) ≤ (tt : Int) := by omega
    have hz := HS1.out.z
    have hfca : (fr : Int) ≤ (ca : Int) := by omega
    have hfcb : (fr : Int) ≤ (cb : Int) := by omega
    have hmca : (md : Int) ≤ (ca : Int) := by omega
    have htca : (tt : Int) ≤ (ca : Int) := by omega
    have hne1 : ¬ cb = fr := by omega
    have hne2 : ¬ ca = fr := by omega
    obtain ⟨b2, hb2⟩ : ∃ b2, (if ca = md then some (⟨ga, 0, none⟩ : Addr) else some ⟨ga, md * 17, none⟩) = some ⟨ga, b2, none⟩ ∧ ERowp X ga b2 ((l.drop (fr + n)).take n) := by
     have hgl : X.heap[ga]? = W1.heap[ga]? := hX.out.block ga (by obtain ⟨cur, h1, _⟩ := HS1.out.ha; exact (Array.getElem?_eq_some_iff.1 h1).1) (fun e => HS1.out.d.1 (by injection e))
     by_cases h : ca = md
     ·refine ⟨0, by rw [if_pos h], fun i hi => ?_⟩
      have := HS1.out.S.2.1
      have := HM.out
      simp only [List.length_take, List.length_drop] at hi
      omega
     ·refine ⟨md * 17, by rw [if_neg h], ?_⟩
      by_cases h2 : fr + n ≤ tt
      ·have e : md = fr + n := by omega
       have := (HS1.out.r.piece (fr + n) n).keep hgl
       rw [e]
       exact this
      ·intro i hi
       have := HS1.out.S.2.1
       have := HM.out
       simp only [List.length_take, List.length_drop] at hi
       have := HX.out.2.2
       omega
    obtain ⟨hb2, HB2⟩ := hb2
    replace HB2 := Lib.hid HB2
    clear hmd hz
    gi_wp2
    have HSX : Hid ((fun Y => Y.cell? ⟨w.heap.size, 0, none⟩ = some (.func (.func 128) #[] #[]) ∧ Y.cell? ⟨bo, 0, none⟩ = some (.slice (some ⟨ga, 0, none⟩) m ca) ∧ Y.cell? ⟨bs, 0, none⟩ = some (.slice (some ⟨gb, 0, none⟩) m cb)) X.drew) := Lib.hid ⟨c1, c2, c3⟩
    refine wpIn_region_round (fun Y => Y.cell? ⟨w.heap.size, 0, none⟩ = some (.func (.func 128) #[] #[]) ∧ Y.cell? ⟨bo, 0, none⟩ = some (.slice (some ⟨ga, 0, none⟩) m ca) ∧ Y.cell? ⟨bs, 0, none⟩ = some (.slice (some ⟨gb, 0, none⟩) m cb)) hmx (by kernel_rfl) (by rintro ⟨a, w, h⟩; exact h) ?_
    have hH := HSX.out
    refine wpAnyH_take (i := 0) (oi := _) (v := ?_) rfl (by kernel_rfl) (by kernel_rfl) (by kernel_rfl) (fun _ _ _ h => h) (Or.inl ⟨by rfl, ?_⟩) hH ?_
    rotate_left 1
    ·intro Y hSY
     obtain ⟨s1, s2, s3⟩ := hSY
     go_simp
     with_reducible rfl
    try simp only [LY]
    refine wpAnyH_take (i := 1) (oi := _) (v := ?_) rfl (by kernel_rfl) (by kernel_rfl) (by kernel_rfl) (fun _ _ _ h => h) (Or.inl ⟨by rfl, ?_⟩) hH ?_
    rotate_left 1
    ·intro Y hSY
     obtain ⟨s1, s2, s3⟩ := hSY
     go_simp
     with_reducible rfl
    try simp only [LY]
    refine wpAnyH_take (i := 2) (oi := _) (v := ?_) rfl (by kernel_rfl) (by kernel_rfl) (by kernel_rfl) (fun _ _ _ h => h) (Or.inl ⟨by rfl, ?_⟩) hH ?_
    rotate_left 1
    ·intro Y hSY
     obtain ⟨s1, s2, s3⟩ := hSY
     go_simp
     with_reducible rfl
    try simp only [LY]
    refine wpAnyH_take (i := 3) (oi := _) (v := ?_) rfl (by kernel_rfl) (by kernel_rfl) (by kernel_rfl) (fun _ _ _ h => h) (Or.inl ⟨by rfl, ?_⟩) hH ?_
    rotate_left 1
    ·intro Y hSY
     obtain ⟨s1, s2, s3⟩ := hSY
     go_simp
     with_reducible rfl
    try simp only [LY]
    refine wpAnyH_take (i := 4) (oi := _) (v := ?_) rfl (by kernel_rfl) (by kernel_rfl) (by kernel_rfl) (fun _ _ _ h => h) (Or.inl ⟨by rfl, ?_⟩) hH ?_
    rotate_left 1
    ·intro Y hSY
     obtain ⟨s1, s2, s3⟩ := hSY
     go_simp
     with_reducible rfl
    try simp only [LY]
    refine wpAnyH_take (i := 5) (oi := _) (v := ?_) rfl (by kernel_rfl) (by kernel_rfl) (by kernel_rfl) (fun _ _ _ h => h) (Or.inl ⟨by rfl, ?_⟩) hH ?_
    rotate_left 1
    ·intro Y hSY
     obtain ⟨s1, s2, s3⟩ := hSY
     go_simp
     with_reducible rfl
    try simp only [LY]
    refine wpAnyH_take (i := 6) (oi := _) (v := ?_) rfl (by kernel_rfl) (by kernel_rfl) (by kernel_rfl) (fun _ _ _ h => h) (Or.inl ⟨by rfl, ?_⟩) hH ?_
    rotate_left 1
    ·intro Y hSY
     obtain ⟨s1, s2, s3⟩ := hSY
     go_simp
     with_reducible rfl
    try simp only [LY]
    refine wpAnyH_take (i := 7) (oi := _) (v := ?_) rfl (by kernel_rfl) (by kernel_rfl) (by kernel_rfl) (fun _ _ _ h => h) (Or.inl ⟨by rfl, ?_⟩) hH ?_
    rotate_left 1
    ·intro Y hSY
     obtain ⟨s1, s2, s3⟩ := hSY
     go_simp
     with_reducible rfl
    try simp only [LY]
    refine wpAnyH_take (i := 8) (oi := _) (v := ?_) rfl (by kernel_rfl) (by kernel_rfl) (by kernel_rfl) (fun _ _ _ h => h) (Or.inl ⟨by rfl, ?_⟩) hH ?_
    rotate_left 1
    ·intro Y hSY
     obtain ⟨s1, s2, s3⟩ := hSY
     go_simp
     with_reducible rfl
    try simp only [LY]
    refine wpAnyH_take (i := 9) (oi := _) (v := ?_) rfl (by kernel_rfl) (by kernel_rfl) (by kernel_rfl) (fun _ _ _ h => h) (Or.inl ⟨by rfl, ?_⟩) hH ?_
    rotate_left 1
    ·intro Y hSY
     obtain ⟨s1, s2, s3⟩ := hSY
     go_simp
     with_reducible rfl
    try simp only [LY]
    refine wpAnyH_take (i := 10) (oi := _) (v := ?_) rfl (by kernel_rfl) (by kernel_rfl) (by kernel_rfl) (fun _ _ _ h => h) (Or.inl ⟨by rfl, ?_⟩) hH ?_
    rotate_left 1
    ·intro Y hSY
     obtain ⟨s1, s2, s3⟩ := hSY
     go_simp
     with_reducible rfl
    try simp only [LY]
    refine wpAnyH_take (i := 11) (oi := _) (v := ?_) rfl (by kernel_rfl) (by kernel_rfl) (by kernel_rfl) (fun _ _ _ h => h) (Or.inl ⟨by rfl, ?_⟩) hH ?_
    rotate_left 1
    ·intro Y hSY
     obtain ⟨s1, s2, s3⟩ := hSY
     go_simp
     with_reducible rfl
    try simp only [LY]
    refine wpAnyH_take (i := 12) (oi := _) (v := ?_) rfl (by kernel_rfl) (by kernel_rfl) (by kernel_rfl) (fun _ _ _ h => h) (Or.inl ⟨by rfl, ?_⟩) hH ?_
    rotate_left 1
    ·intro Y hSY
     obtain ⟨s1, s2, s3⟩ := hSY
     go_simp
     with_reducible rfl
    try simp only [LY]
    refine wpAnyH_ready (rs := [13]) (by kernel_rfl) (by simp) ?_
    refine AllReadyH.cons rfl (fun K hK => ?_) AllReadyH.nil
    go_simp
    go_at_call 193
    have hll : l.length = m := HS1.out.S.2.1.trans HM.out
    have hgaX : X.heap[ga]? = W1.heap[ga]? := hX.out.block ga (by obtain ⟨cur, h1, _⟩ := HS1.out.ha; exact (Array.getElem?_eq_some_iff.1 h1).1) (fun e => HS1.out.d.1 (by injection e))
    have hgal : ga < X.heap.size := by
     obtain ⟨cur, h1, _⟩ := HS1.out.ha
     exact (Array.getElem?_eq_some_iff.1 (hgaX.trans h1)).1
    have hgbl : gb < W1.heap.size := by obtain ⟨cur, h1, _⟩ := HS1.out.hb; exact (Array.getElem?_eq_some_iff.1 h1).1
    have hgbW : gb < W.heap.size := by obtain ⟨cur, h1, _⟩ := HS.out.hb; exact (Array.getElem?_eq_some_iff.1 h1).1
    have hE : ∀ (k : Nat), ∀ y ∈ (l.drop (k * n)).take n, y ∈ L := fun k y hy => List.mem_of_mem_drop (List.mem_of_mem_take ((HS1.out.S.2.2 k).mem_iff.1 hy))
    have ek0 : (2 * x.1) * n = fr := by rw [← HX.out.1, Nat.mul_comm 2 x.1, Nat.mul_assoc]
    have ek1 : (2 * x.1 + 1) * n = fr + n := by rw [Nat.add_mul, ek0, Nat.one_mul]
    have hEA := hE (2 * x.1)
    have hEB := hE (2 * x.1 + 1)
    rw [ek0] at hEA
    rw [ek1] at hEB
    have hmdd := HMD.out
    have htt := HX.out.2.2
    have hz := HS1.out.z
    refine (mergep_any w X.drew  c L ((l.drop fr).take n) ((l.drop (fr + n)).take n) gb ga zb (fr * 17) (fr * 17) b2 (cb - fr) (ca - fr) (ca - md) (md - fr) (tt - md) 123 HC.out hEA hEB HS1.out.f.2.2.2.2 (fun e => HS1.out.d.1 e.symm) hgal
     (by simp only [List.length_take, List.length_drop]; omega) (by simp only [List.length_take, List.length_drop]; omega) ⟨HJ.out.b.drew, ⟨rfl, rfl, rfl, Nat.le_refl _, fun _ _ _ => rfl⟩, HJ.out.h, fun i hi => by simp at hi, fun _ _ => rfl⟩
     (by have := (HS1.out.r.piece fr n).keep hgaX; exact this) HB2.out (by omega) (by omega) (by omega) (by omega) (by omega)).mono ?_
    rintro e w1 ⟨⟨v, rfl⟩, hM⟩
    have hg : X.grownBy w1 (some gb) := ⟨hM.g.os, hM.g.tape, hM.g.output, hM.g.size, hM.g.block⟩
    have hM2 : MergeIp w X w1 gb ga 123 zb (x.1 * (2 * n) * 17) (mergeL c ((l.drop (x.1 * (2 * n))).take n) ((l.drop (x.1 * (2 * n) + n)).take n)) := by
     rw [HX.out.1]
     have h := hM.r
     have k := hM.k
     skip
     exact ⟨hM.b, hg, hM.h, h, k⟩
    have hbx : ∀ (b : Nat) (t : TypeId) (v : Value), b < W1.heap.size → b ≠ gb → Boxed W1 b t v → Boxed w1 b t v := fun b t v h1 h2 h => Eq.trans (hg.block b (Nat.lt_of_lt_of_le h1 hX.out.size) (fun e => h2 (by injection e))) (Eq.trans (hX.out.block b h1 (fun e => h2 (by injection e))) h)
    have HFIN : Hid (KeepsFrom W1.heap.size X w1 ∧ KpBk W.heap.size X w1 ∧ SortJp w W1 w1 gb 123 zb c' n l (pre ++ [x]).length ((pre ++ [x]).map (·.1) = List.range (pre ++ [x]).length)) := Lib.hid ⟨KeepsFrom.of_grownBy hg (fun j e => by injection e with e; omega),
     ⟨hg.block _ (by have := hX.out.size; omega) (fun e => by injection e with e; omega), hg.block _ (by have := hX.out.size; omega) (fun e => by injection e with e; omega)⟩, by
      rw [List.length_append]
      refine HJ.out.step HO.out (by omega) HST.out HS1.out.S hM2 (by rw [hll]; exact x.2) fun ho => ?_
      simp only [List.map_append, List.map_cons, List.map_nil, List.length_cons, List.length_nil, List.range_succ] at ho
      have h2 := List.append_inj' ho rfl
      exact ⟨h2.1, by simpa using h2.2⟩⟩
    have HSW : Hid ((fun Y => Y.cell? ⟨w.heap.size, 0, none⟩ = some (.func (.func 128) #[] #[]) ∧ Y.cell? ⟨bo, 0, none⟩ = some (.slice (some ⟨ga, 0, none⟩) m ca) ∧ Y.cell? ⟨bs, 0, none⟩ = some (.slice (some ⟨gb, 0, none⟩) m cb)) w1) := Lib.hid ⟨(hbx _ _ _ HS1.out.c.lt HS1.out.d.2.2.1 HS1.out.c).cell, (hbx _ _ _ HS1.out.o.lt HS1.out.d.2.2.2.2.1 HS1.out.o).cell, (hbx _ _ _ HS1.out.s.lt HS1.out.d.2.2.2.2.2.2.1 HS1.out.s).cell⟩
    clear hg hM2 hbx hM hEA hEB hE ek0 ek1 hmdd htt hz hgaX hgal hgbl hgbW hll
    go_wp2_with fail
    refine hK.out _ _ HSW.out (fun hH => ?_)
    clear hK K
    refine wpAnyH_done (by kernel_rfl) ?_ _
    exact ⟨HFIN.out.1, HFIN.out.2.1, Lib.hid HFIN.out.2.2⟩
   case done =>
    rintro D ys X hD hS HJ hK
    have hll : l.length = m := HS1.out.S.2.1.trans HM.out
    obtain ⟨M, hMr, hMS⟩ := HJ.out.fin hS.1 HS1.out.S (by rw [hll]; exact hS.2)
    have HMS := Lib.hid (And.intro hMr hMS)
    have hg := HJ.out.g
    have hbx : ∀ (b : Nat) (t : TypeId) (v : Value), b ≠ gb → Boxed W1 b t v → Boxed X b t v := fun b t v h2 h => Eq.trans (hg.block b h.lt (fun e => h2 (by injection e))) h
    have bC := hbx _ _ _ HS1.out.d.2.2.1 HS1.out.c
    have bO := hbx _ _ _ HS1.out.d.2.2.2.2.1 HS1.out.o
    have bS := hbx _ _ _ HS1.out.d.2.2.2.2.2.2.1 HS1.out.s
    have bN := hbx _ _ _ (by have := HS1.out.e; omega) HS1.out.nn
    have HA : Hid (∃ cur, X.heap[ga]? = some (.cells cur 123 (0, 0)) ∧ cur.size = za) := Lib.hid (by
     obtain ⟨cur, h1, h2⟩ := HS1.out.ha
     exact ⟨cur, (hg.block ga (Array.getElem?_eq_some_iff.1 h1).1 (fun e => HS1.out.d.1 (by injection e))).trans h1, h2⟩)
    have HB := Lib.hid HJ.out.h
    have HBX := Lib.hid HJ.out.b
    have HMX : Hid (MarkOk w.heap.size X ({ target := .collected D, args := #[] } :: ds)) := Lib.hid ((HMK1.out.keep fun E h => (hg.block E (Array.getElem?_eq_some_iff.1 h).1 (fun e => by
     injection e with e
     subst e
     obtain ⟨cur, h1, _⟩ := HS1.out.hb
     rw [h1] at h
     cases h)).trans h).cons (by have := HS1.out.b.size; omega) hK (fun E hE => by have := HMK1.out.lt E hE; omega))
    have c1 := bO.cell
    have c2 := bS.cell
    have c3 := bN.cell
    have f1 := bO.frozen
    have f2 := bS.frozen
    have HBC := Lib.hid (And.intro bC (And.intro bO bS))
    have hdos := HS1.out.d.2.2.2.2.2.2.2.1
    have hens := HS1.out.e
    have hn1' : ¬ bn = bo := by omega
    have hn2' : ¬ bn = bs := by omega
    have hn3' : ¬ bs = bo := fun e => hdos e.symm
    have hoX := bO.lt
    have hsX := bS.lt
    clear hg hbx bC bO bS bN hMr hMS hS HJ hK hens
    go_wp2
    have sz1 : ∀ (Z : World) (b : Nat) (v : Value), (Z.setCell ⟨b, 0, none⟩ v).heap.size = Z.heap.size := fun Z b v => by simp
    have kY : ∀ k, k < X.heap.size → k ≠ bo → k ≠ bs → (((X.setCell ⟨bo, 0, none⟩ (.slice (some ⟨gb, 0, none⟩) m cb)).setCell ⟨bs, 0, none⟩ (.slice (some ⟨ga, 0, none⟩) m ca)).alloc (.cells #[.int .i64 ((n : Int) * 2)] 3)).heap[k]? = X.heap[k]? := fun k h1 h2 h3 => by
     rw [Below.heap_alloc _ _ _ (by rw [sz1, sz1]; exact h1), Below.heap_setCell _ _ _ _ h3, Below.heap_setCell _ _ _ _ h2]
    have hgal : ga < X.heap.size := by obtain ⟨cur, h1, _⟩ := HA.out; exact (Array.getElem?_eq_some_iff.1 h1).1
    have hgbl : gb < X.heap.size := by obtain ⟨cur, h1, _⟩ := HB.out; exact (Array.getElem?_eq_some_iff.1 h1).1
    have hcl := HBC.out.1.lt
    have hd := HS1.out.d
    have hf := HS1.out.f
    have hz := HS1.out.z
    have hw := HBX.out.size
    have HSY : Sortp w (((X.setCell ⟨bo, 0, none⟩ (.slice (some ⟨gb, 0, none⟩) m cb)).setCell ⟨bs, 0, none⟩ (.slice (some ⟨ga, 0, none⟩) m ca)).alloc (.cells #[.int .i64 ((n : Int) * 2)] 3)) w.heap.size bo bs X.heap.size gb ga cb ca zb za (2 * n) m (.func (.func 128) #[] #[]) c' L M := by
     refine ⟨((HBX.out.grown (grownBy_setCell' _ _ _) (by omega) (fun k e => by injection e with e; omega)).grown (grownBy_setCell' _ _ _) (by rw [sz1]; omega) (fun k e => by injection e with e; omega)).alloc (by rw [sz1, sz1]; omega) _, ?_, ?_, ?_, ?_, ?_, ?_, ?_, ?_, ?_, ?_, ?_, HMS.out.2⟩
     ·exact Eq.trans (kY _ hcl hd.2.2.2.2.2.2.2.2.1 hd.2.2.2.2.2.2.2.2.2) HBC.out.1
     ·exact (((HBC.out.2.1).set _).other hdos _).alloc _
     ·exact (((HBC.out.2.2).other hn3' _).set _).alloc _
     ·have h := heap_alloc_new ((X.setCell ⟨bo, 0, none⟩ (.slice (some ⟨gb, 0, none⟩) m cb)).setCell ⟨bs, 0, none⟩ (.slice (some ⟨ga, 0, none⟩) m ca)) (.cells #[.int .i64 ((n : Int) * 2)] 3)
      rw [sz1, sz1] at h
      unfold Boxed
      rw [h, show (n : Int) * 2 = ((2 * n : Nat) : Int) by omega]
     ·obtain ⟨cur, h1, h2⟩ := HB.out
      exact ⟨cur, (kY _ hgbl (by omega) (by omega)).trans h1, h2⟩
     ·obtain ⟨cur, h1, h2⟩ := HA.out
      exact ⟨cur, (kY _ hgal (by omega) (by omega)).trans h1, h2⟩
     ·omega
     ·omega
     ·omega
     ·omega
     ·exact HMS.out.1.keep (kY _ hgbl (by omega) (by omega))
    have HMY : MarkOk w.heap.size (((X.setCell ⟨bo, 0, none⟩ (.slice (some ⟨gb, 0, none⟩) m cb)).setCell ⟨bs, 0, none⟩ (.slice (some ⟨ga, 0, none⟩) m ca)).alloc (.cells #[.int .i64 ((n : Int) * 2)] 3)) ({ target := .collected D, args := #[] } :: ds) := HMX.out.keep fun E h => (kY E (Array.getElem?_eq_some_iff.1 h).1 (fun e => by subst e; rw [show X.heap[_]? = _ from HBC.out.2.1] at h; cases h) (fun e => by subst e; rw [show X.heap[_]? = _ from HBC.out.2.2] at h; cases h)).trans h
    exact Handed.intro (2 * m - 2 * n) (by omega) (hJ _ _ _ ⟨2 * n, X.heap.size, gb, ga, cb, ca, zb, za, M, _, _, _, _, _, _, _, _, _, _, _, _, _, _, _, rfl, rfl, by omega, by omega, Lib.hid HSY, Lib.hid HMY⟩)
  ·have hlt' : ¬ (n : Int) < (m : Int) := by omega
   go_wp2
   refine leaves_marks (base := w.heap.size) (fun W' => results_tmp rfl _ _ W') ds W HMK.out fun W' hs => ?_
   obtain ⟨hs1, hs2⟩ := sortS_whole c' n L l HS.out.S (by have := HM.out; omega)
   obtain ⟨cur, h1, h2⟩ := HS.out.ha
   have h3 := hs.c _ _ _ h1
   exact ⟨ga, ⟨ca, rfl⟩, ⟨za, l, Lib.hid ⟨HS.out.f.2.2.2.1, ⟨cur, h3, h2⟩, HS.out.r.keep (h3.trans h1.symm), hs1, hs2⟩⟩, HS.out.b.trans hs.b⟩
end Go.Proofs.YtcpkjmpbpmeclaaGreatDoor
namespace Go.Proofs.YtcpkjmpbpmeclaaGreatDoor
open Go.RowKit Go.Shelf
attribute [local go_sem] Oper.semAt_some
set_option maxRecDepth 100000
set_option linter.unusedVariables false
set_option linter.unusedSimpArgs false
set_option linter.unnecessarySimpa false

/-- What stands ahead of a round of Sort: 'ga': what is read, 'gb': what is written next. -/
structure Sorti (w W : World) (bc bo bs bn ga gb ca cb za zb n m : Nat) (cv : Value) (c' : ELi → ELi → Int) (L l : List ELi) : Prop where
 b : Below w.heap.size w W
 c : Boxed W bc 233 cv
 o : Boxed W bo 93 (.slice (some ⟨ga, 0, none⟩) m ca)
 s : Boxed W bs 93 (.slice (some ⟨gb, 0, none⟩) m cb)
 nn : Boxed W bn 3 (.int .i64 (n : Nat))
 ha : ∃ cur, W.heap[ga]? = some (.cells cur 3 (0, 0)) ∧ cur.size = za
 hb : ∃ cur, W.heap[gb]? = some (.cells cur 3 (0, 0)) ∧ cur.size = zb
 d : ga ≠ gb ∧ bc ≠ ga ∧ bc ≠ gb ∧ bo ≠ ga ∧ bo ≠ gb ∧ bs ≠ ga ∧ bs ≠ gb ∧ bo ≠ bs ∧ bc ≠ bo ∧ bc ≠ bs
 e : bc < bn ∧ bo < bn ∧ bs < bn ∧ ga < bn ∧ gb < bn
 f : w.heap.size ≤ bc ∧ w.heap.size ≤ bo ∧ w.heap.size ≤ bs ∧ w.heap.size ≤ ga ∧ w.heap.size ≤ gb
 z : m * 1 ≤ za ∧ m * 1 ≤ zb ∧ m ≤ ca ∧ m ≤ cb
 r : ERowi W ga 0 l
 S : SortS c' n L l
theorem Sorti.below {w W W' : World} {bc bo bs bn ga gb ca cb za zb n m : Nat} {cv : Value} {c' : ELi → ELi → Int} {L l : List ELi} (h : Sorti w W bc bo bs bn ga gb ca cb za zb n m cv c' L l) (hb : Below W.heap.size W W') :
  Sorti w W' bc bo bs bn ga gb ca cb za zb n m cv c' L l := by
 have kb : ∀ (b : Nat) (t : TypeId) (v : Value), Boxed W b t v → Boxed W' b t v := fun b t v hx => Eq.trans (hb.block b hx.lt) hx
 have kc : ∀ (b z : Nat), (∃ cur, W.heap[b]? = some (.cells cur 3 (0, 0)) ∧ cur.size = z) → ∃ cur, W'.heap[b]? = some (.cells cur 3 (0, 0)) ∧ cur.size = z := fun b z ⟨cur, h1, h2⟩ => ⟨cur, (hb.block b (Array.getElem?_eq_some_iff.1 h1).1).trans h1, h2⟩
 have hl : ga < W.heap.size := by obtain ⟨cur, h1, _⟩ := h.ha; exact (Array.getElem?_eq_some_iff.1 h1).1
 exact ⟨trans_b h.b hb, kb _ _ _ h.c, kb _ _ _ h.o, kb _ _ _ h.s, kb _ _ _ h.nn, kc _ _ h.ha, kc _ _ h.hb, h.d, h.e, h.f, h.z, h.r.keep (hb.block _ hl), h.S⟩
set_option maxHeartbeats 8000000 in
theorem sorti_any (q1 q2 : Nat) (g off cap m : Nat) (c c' : ELi → ELi → Int) (L : List ELi) (w : World) (hm : L.length = m) (hm0 : 0 < m) (hm1 : m ≤ 1000000000) (hr : ERowi w g off L) (hc : Cmpi w q1 q2 c L) (hO : OrdC c') (hst : Stab c c' L) :
  Calls Tryz.prog 189 #[.slice (some ⟨g, off, none⟩) m cap, (.func (.func 190) #[] #[.pointer (some ⟨q1, 0, none⟩), .pointer (some ⟨q2, 0, none⟩)])] w fun e w' => ∃ gb cap' csz R, e = .returned (.slice (some ⟨gb, 0, none⟩) m cap') ∧
   Hid (w.heap.size ≤ gb ∧ (∃ cur, w'.heap[gb]? = some (.cells cur 3 (0, 0)) ∧ cur.size = csz) ∧ ERowi w' gb 0 R ∧ SortedC c' R ∧ R.Perm L) ∧ Below w.heap.size w w' := by
 obtain ⟨i0, z0, hi, hz0, hz1, hz2, hzs⟩ := infoi3
 obtain ⟨Z, hZ⟩ : ∃ Z, madeCells z0.cells (m * 1) = Z := ⟨_, rfl⟩
 have hZs : Z.size = m * 1 := by rw [← hZ]; exact size_madeCells _ _
 have hmk : ∀ W : World, (Instr.makeSlice 93 (.int .i64 (m : Nat)) (.int .i64 (m : Nat))).run Tryz.prog W = .ok (.slice (some ⟨W.heap.size, 0, none⟩) m m) (W.alloc (.cells Z 3)) := fun W => by
  have h := run_make (P := Tryz.prog) W 93 3 i0 z0 Tryz.underlying93 hi hz0 .i64 .i64 (m : Nat) (m : Nat) (by omega) (by omega) (by rw [hz2]; omega) (by omega)
  rw [Int.toNat_natCast, hz1, hZ] at h
  exact h
 have qf : ∀ w : World, (binOp .eql 233 (.func (.func 190) #[] #[.pointer (some ⟨q1, 0, none⟩), .pointer (some ⟨q2, 0, none⟩)]) .nilFunc).run Tryz.prog w = .ok (.bool false) w := fun w => by kernel_rfl
 have HCL : Hid (∀ W, Below w.heap.size w W → Calls Tryz.prog 219 #[.slice (some ⟨g, off, none⟩) m cap] W fun e w' => ∃ v gb cap csz, e = .returned v ∧ Hid (Rows W.heap.size w' m 1 3 v gb cap csz ∧ ERowi w' gb 0 L) ∧ Below W.heap.size W w') :=
  Lib.hid fun W hW => clonei_any g off cap m L W hm hm0 hm1 (fun i hi k u hu => keep1 hW (hr i hi k u hu))
 have HZS := Lib.hid hZs
 have HC := Lib.hid hc
 have HO := Lib.hid hO
 have HST := Lib.hid hst
 have HM := Lib.hid hm
 clear hZ hi hz0 hz1 hz2 hzs hr hc hO hst hm hZs
 refine (callsIn_wide (n := 6)).1 ?_
 refine callsIn_of_wp_marks Tryz.func189 rfl trivial ?_ rfl
 simp only [Tryz.ntmps189, List.size_toArray, List.length_cons, List.length_nil, Nat.reduceAdd, Nat.reduceSub, Array.replicate_succ, Array.replicate_zero, List.push_toArray, List.append_toArray, List.nil_append, List.cons_append]
 refine wpIn_wide.2 ?_
 have hB0 : Hid (Below w.heap.size w (w.alloc (.cells #[(.func (.func 190) #[] #[.pointer (some ⟨q1, 0, none⟩), .pointer (some ⟨q2, 0, none⟩)])] 233))) := Lib.hid ((Below.refl _ w).alloc (Nat.le_refl _) _)
 go_wp2_with (go_at_call 219; go_must (refine (HCL.out _ hB0.out).mono ?_); go_must (rintro e w1 ⟨v, gq, cq, zq, rfl, hRw, hb1⟩; have hsz1 := hb1.size; obtain ⟨⟨rfl, hga, hga2, hga3, hga4⟩, hrow⟩ := hRw.out; have HB1 := Lib.hid hb1; clear hb1 hRw))
 have START : Hid (Sorti w ((((w1.alloc (.cells #[.slice (some ⟨gq, 0, none⟩) m cq] 93)).alloc (.cells Z 3)).alloc (.cells #[.slice (some ⟨w1.heap.size + 1, 0, none⟩) m m] 93)).alloc (.cells #[.int .i64 1] 3)) w.heap.size w1.heap.size (w1.heap.size + 1 + 1) (w1.heap.size + 1 + 1 + 1) gq (w1.heap.size + 1) cq m zq Z.size 1 m (.func (.func 190) #[] #[.pointer (some ⟨q1, 0, none⟩), .pointer (some ⟨q2, 0, none⟩)]) c' L L) := Lib.hid (by
  have old : ∀ (X : World) (o : Obj) (i : Nat), i < X.heap.size → (X.alloc o).heap[i]? = X.heap[i]? := fun X o i hi => Below.heap_alloc X o i hi
  have new : ∀ (X : World) (o : Obj) (i : Nat), i = X.heap.size → (X.alloc o).heap[i]? = some o := fun X o i hi => by rw [hi]; exact heap_alloc_new X o
  have hgw : gq < w1.heap.size := by obtain ⟨cur, h, _⟩ := hga2; exact (Array.getElem?_eq_some_iff.1 h).1
  simp only [World.size_alloc] at hga hsz1
  have hs0 := hB0.out.size
  have hbb : Below w.heap.size w w1 := trans_b hB0.out HB1.out
  have old4 : ∀ i, i < w1.heap.size → ((((w1.alloc (.cells #[.slice (some ⟨gq, 0, none⟩) m cq] 93)).alloc (.cells Z 3)).alloc (.cells #[.slice (some ⟨w1.heap.size + 1, 0, none⟩) m m] 93)).alloc (.cells #[.int .i64 1] 3)).heap[i]? = w1.heap[i]? := fun i hi => by
   rw [old _ _ _ (by simp <;> omega), old _ _ _ (by simp <;> omega), old _ _ _ (by simp <;> omega), old _ _ _ hi]
  refine ⟨(((hbb.alloc hbb.size _).alloc (by simp; omega) _).alloc (by simp; omega) _).alloc (by simp; omega) _, ?_, ?_, ?_, ?_, ?_, ?_, ?_, ?_, ?_, ?_, fun i hi k u hu => ?_, sort_start c' L⟩
  ·exact (old4 _ (by omega)).trans ((HB1.out.block _ (by simp)).trans (heap_alloc_new w _))
  ·unfold Boxed
   rw [old _ _ _ (by simp <;> omega), old _ _ _ (by simp <;> omega), old _ _ _ (by simp <;> omega), new _ _ _ rfl]
  ·unfold Boxed
   rw [old _ _ _ (by simp <;> omega), new _ _ _ (by simp)]
  ·unfold Boxed
   rw [new _ _ _ (by simp)]
   rfl
  ·obtain ⟨cur, h1, h2⟩ := hga2
   exact ⟨cur, (old4 _ hgw).trans h1, h2⟩
  ·refine ⟨Z, ?_, rfl⟩
   rw [old _ _ _ (by simp <;> omega), old _ _ _ (by simp <;> omega), new _ _ _ (by simp)]
  ·omega
  ·omega
  ·omega
  ·exact ⟨hga3, by rw [HZS.out]; exact Nat.le_refl _, hga4, Nat.le_refl _⟩
  ·exact (World.cell?_of_block (a := ⟨gq, 0 + i * 1 + k, none⟩) (old4 _ hgw)).trans (hrow i hi k u hu))
 have MARK : Hid (MarkOk w.heap.size ((((w1.alloc (.cells #[.slice (some ⟨gq, 0, none⟩) m cq] 93)).alloc (.cells Z 3)).alloc (.cells #[.slice (some ⟨w1.heap.size + 1, 0, none⟩) m m] 93)).alloc (.cells #[.int .i64 1] 3)) []) := Lib.hid (MarkOk.nil _ _)
 generalize ((((w1.alloc (.cells #[.slice (some ⟨gq, 0, none⟩) m cq] 93)).alloc (.cells Z 3)).alloc (.cells #[.slice (some ⟨w1.heap.size + 1, 0, none⟩) m m] 93)).alloc (.cells #[.int .i64 1] 3)) = W0 at *
 clear hga2 hrow hsz1 hga hga3 hga4 HB1 hB0
 generalize w1.heap.size + 1 + 1 + 1 = bn0 at *
 generalize w1.heap.size + 1 + 1 = bs at *
 generalize w1.heap.size + 1 = g1 at *
 generalize w1.heap.size = bo at *
 refine wp_loop_ghost_k (fun k a W => ∃ (n bn ga gb ca cb za zb : Nat) (l : List ELi) (ds : List Deferred) (u18 u19 u20 u21 u22 u23 u24 u25 u26 u27 u28 u50 u51 u52 : Value), a = { tmps := #[.slice (some ⟨g, off, none⟩) m cap, (.func (.func 190) #[] #[.pointer (some ⟨q1, 0, none⟩), .pointer (some ⟨q2, 0, none⟩)]), undef, .pointer (some ⟨w.heap.size, 0, none⟩), .slice none 0 0, .pointer (some ⟨bo, 0, none⟩), .pointer (some ⟨bs, 0, none⟩), .pointer (some ⟨bn, 0, none⟩), undef, undef, undef, (.func (.func 190) #[] #[.pointer (some ⟨q1, 0, none⟩), .pointer (some ⟨q2, 0, none⟩)]), .bool false, .slice (some ⟨g, off, none⟩) m cap, .slice (some ⟨gq, 0, none⟩) m cq, .slice (some ⟨g, off, none⟩) m cap, .int .i64 (m : Nat), .slice (some ⟨g1, 0, none⟩) m m, u18, u19, u20, u21, u22, u23, u24, u25, u26, u27, u28, undef, undef, undef, undef, undef, undef, undef, undef, undef, undef, undef, undef, undef, undef, undef, undef, undef, undef, undef, undef, undef, u50, u51, u52, undef], defers := ds } ∧ k = 2 * m - n ∧ 1 ≤ n ∧ n ≤ 2 * m ∧ Hid (Sorti w W w.heap.size bo bs bn ga gb ca cb za zb n m (.func (.func 190) #[] #[.pointer (some ⟨q1, 0, none⟩), .pointer (some ⟨q2, 0, none⟩)]) c' L l) ∧ Hid (MarkOk w.heap.size W ds)) (2 * m - 1) ?st ?rd
 case st => exact ⟨1, bn0, gq, g1, cq, m, zq, Z.size, L, [], undef, undef, undef, undef, undef, undef, undef, undef, undef, undef, undef, undef, undef, undef, rfl, rfl, Nat.le_refl _, by omega, START, MARK⟩
 case rd =>
  rintro k a W ⟨n, bn, ga, gb, ca, cb, za, zb, l, ds, u18, u19, u20, u21, u22, u23, u24, u25, u26, u27, u28, u50, u51, u52, rfl, rfl, hn1, hn2, HS, HMK⟩ J KK hJ hKK
  have cN := HS.out.nn.cell
  have cO := HS.out.o.cell
  by_cases hlt : n < m
  ·have hlt' : (n : Int) < (m : Int) := by omega
   have hz2 : 2 * n ≤ 2000000000 := by omega
   go_wp2_with (go_at_call 192; go_must (refine (blocks_any m (2 * n) _).mono ?_); go_must (rintro e w' ⟨rfl, rfl⟩))
   have hmx : Tryz.prog.follows .mixedOrders = true := by kernel_rfl
   have hW1s : Hid (((W.alloc (.cells #[.int .i64 (m : Nat)] 3)).alloc (.cells #[.int .i64 (2 * (n : Int))] 3)).heap.size = W.heap.size + 1 + 1) := Lib.hid (by simp)
   have hW1b : Hid (Below W.heap.size W ((W.alloc (.cells #[.int .i64 (m : Nat)] 3)).alloc (.cells #[.int .i64 (2 * (n : Int))] 3))) := Lib.hid (((Below.refl _ W).alloc (Nat.le_refl _) _).alloc (by simp) _)
   have hb1 : Hid (((W.alloc (.cells #[.int .i64 (m : Nat)] 3)).alloc (.cells #[.int .i64 (2 * (n : Int))] 3)).heap[W.heap.size]? = some (.cells #[.int .i64 (m : Nat)] 3 (0, 0))) := Lib.hid (by
    rw [Below.heap_alloc _ _ _ (by simp)]; exact heap_alloc_new _ _)
   have hb2 : Hid (((W.alloc (.cells #[.int .i64 (m : Nat)] 3)).alloc (.cells #[.int .i64 (2 * (n : Int))] 3)).heap[W.heap.size + 1]? = some (.cells #[.int .i64 ((2 * n : Nat) : Int)] 3 (0, 0))) := Lib.hid (by
    have h := heap_alloc_new (W.alloc (.cells #[.int .i64 (m : Nat)] 3)) (.cells #[.int .i64 (2 * (n : Int))] 3)
    rw [World.size_alloc] at h
    rw [h]
    simp)
   generalize ((W.alloc (.cells #[.int .i64 (m : Nat)] 3)).alloc (.cells #[.int .i64 (2 * (n : Int))] 3)) = W1 at *
   have HS1 := Lib.hid (HS.out.below hW1b.out)
   have HMK1 := Lib.hid (HMK.out.keep (W' := W1) fun D h => (hW1b.out.block D (Array.getElem?_eq_some_iff.1 h).1).trans h)
   clear HMK cN cO
   refine (wpIn_wide (n := 6)).1 ?_
   refine wpIn_rangeFunc_ownG rfl (by omega) (gf := 221) (lb := #[.pointer (some ⟨W.heap.size, 0, none⟩), .pointer (some ⟨W.heap.size + 1, 0, none⟩)]) rfl trivial (enters_of Tryz.func221 (by kernel_rfl) rfl)
    (blocks_stops m (2 * n) hm1 (by omega) hz2 5 W.heap.size (by omega) W1 hb1.out hb2.out) (fun h k => h.trans k) (fun X l o o' hl ho hc hw => ⟨World.putObj_heap_other (by have := hW1s.out; omega), World.putObj_heap_other (by have := hW1s.out; omega)⟩) (Below.refl _ _) (fun _ => rfl)
    (fun pre X => Hid (SortJi w W1 X gb 3 zb c' n l pre.length (pre.map (·.1) = List.range pre.length)))
    (fun _ _ _ => False)
    (fun s X Y row hs hg hr => Lib.hid (hs.out.turn hg (fun r e => ⟨(hr r e).1, fun er => by
     obtain ⟨o, ho, hoc⟩ := (hr r e).2
     obtain ⟨cur, h1, _⟩ := hs.out.h
     rw [er, h1] at ho
     cases ho
     cases hoc⟩) HS1.out.b.size))
    (fun _ _ _ _ _ hs _ _ => hs)
    (Lib.hid (SortJi.start c' n l HS1.out.b HS1.out.hb _))
    (fun x => { tmps := #[.slice (some ⟨g, off, none⟩) m cap, (.func (.func 190) #[] #[.pointer (some ⟨q1, 0, none⟩), .pointer (some ⟨q2, 0, none⟩)]), undef, .pointer (some ⟨w.heap.size, 0, none⟩), .slice none 0 0, .pointer (some ⟨bo, 0, none⟩), .pointer (some ⟨bs, 0, none⟩), .pointer (some ⟨bn, 0, none⟩), .int .i64 ((x.1 * (2 * n) : Nat) : Int), .int .i64 ((min (x.1 * (2 * n) + 2 * n) m : Nat) : Int), undef, (.func (.func 190) #[] #[.pointer (some ⟨q1, 0, none⟩), .pointer (some ⟨q2, 0, none⟩)]), .bool false, .slice (some ⟨g, off, none⟩) m cap, .slice (some ⟨gq, 0, none⟩) m cq, .slice (some ⟨g, off, none⟩) m cap, .int .i64 (m : Nat), .slice (some ⟨g1, 0, none⟩) m m, .int .i64 (n : Nat), .slice (some ⟨g, off, none⟩) m cap, .int .i64 (m : Nat), .bool true, u22, u23, .slice (some ⟨g, off, none⟩) m cap, .int .i64 (m : Nat), .int .i64 (n : Nat), .int .i64 (2 * (n : Int)), .func (.func 221) #[] #[.pointer (some ⟨W.heap.size, 0, none⟩), .pointer (some ⟨W.heap.size + 1, 0, none⟩)], .int .i64 ((x.1 * (2 * n) : Nat) : Int), .int .i64 ((min (x.1 * (2 * n) + 2 * n) m : Nat) : Int), undef, undef, undef, undef, undef, undef, undef, undef, undef, undef, undef, undef, undef, undef, undef, undef, undef, undef, undef, u50, u51, u52, undef], defers := [] }) ?assign ?body ?done ?stop
   case assign =>
    intro lp x X K hK
    gi_wp2
    exact hK
   case stop =>
    rintro D c0 pre X _ _ h _
    exact h.elim
   case body =>
    intro lp pre x X HJ hlt2
    have hX := Lib.hid HJ.out.g
    obtain ⟨fr, hfr⟩ : ∃ fr, x.1 * (2 * n) = fr := ⟨_, rfl⟩
    obtain ⟨tt, htt⟩ : ∃ tt, min (fr + 2 * n) m = tt := ⟨_, rfl⟩
    have HX := Lib.hid (And.intro hfr (And.intro x.2 htt))
    have hfm : fr < m := by rw [← hfr]; exact x.2
    rw [hfr, htt]
    have htm : tt ≤ m := by omega
    have hft : fr < tt := by omega
    clear hfr htt
    have cX : ∀ (b : Nat) (t : TypeId) (v : Value), b < W1.heap.size → b ≠ gb → Boxed W1 b t v → Boxed X b t v := fun b t v h1 h2 h => Eq.trans (hX.out.block b h1 (fun e => h2 (by injection e))) h
    have hlt1 := hW1s.out
    have c1 := (cX _ _ _ HS1.out.c.lt HS1.out.d.2.2.1 HS1.out.c).cell
    have c2 := (cX _ _ _ HS1.out.o.lt HS1.out.d.2.2.2.2.1 HS1.out.o).cell
    have c3 := (cX _ _ _ HS1.out.s.lt HS1.out.d.2.2.2.2.2.2.1 HS1.out.s).cell
    have c4 := (cX _ _ _ HS1.out.nn.lt (by have := HS1.out.e; omega) HS1.out.nn).cell
    clear cX
    obtain ⟨md, hmd⟩ : ∃ md, min (fr + n) tt = md := ⟨_, rfl⟩
    have HMD := Lib.hid hmd
    have hmi : min ((fr : Int) + (n : Int)) (tt : Int) = (md : Int) := by omega
    have hfmd : (fr : Int) ≤ (md : Int) := by omega
    have hmdt : (md : Int) ≤ (tt : Int) := by omega
    have hfr0 : (0 : Int) ≤ (fr : Int) := by omega
    have hmd0 : (0 : Int) ≤ (md : Int) := by omega
    have htt0 : (0 : Int) ≤ (tt : Int) := by omega
    have hz := HS1.out.z
    have hfca : (fr : Int) ≤ (ca : Int) := by omega
    have hfcb : (fr : Int) ≤ (cb : Int) := by omega
    have hmca : (md : Int) ≤ (ca : Int) := by omega
    have htca : (tt : Int) ≤ (ca : Int) := by omega
    have hne1 : ¬ cb = fr := by omega
    have hne2 : ¬ ca = fr := by omega
    obtain ⟨b2, hb2⟩ : ∃ b2, (if ca = md then some (⟨ga, 0, none⟩ : Addr) else some ⟨ga, md, none⟩) = some ⟨ga, b2, none⟩ ∧ ERowi X ga b2 ((l.drop (fr + n)).take n) := by
     have hgl : X.heap[ga]? = W1.heap[ga]? := hX.out.block ga (by obtain ⟨cur, h1, _⟩ := HS1.out.ha; exact (Array.getElem?_eq_some_iff.1 h1).1) (fun e => HS1.out.d.1 (by injection e))
     by_cases h : ca = md
     ·refine ⟨0, by rw [if_pos h], fun i hi => ?_⟩
      have := HS1.out.S.2.1
      have := HM.out
      simp only [List.length_take, List.length_drop] at hi
      omega
     ·refine ⟨md, by rw [if_neg h], ?_⟩
      by_cases h2 : fr + n ≤ tt
      ·have e : md = fr + n := by omega
       have := (HS1.out.r.piece (fr + n) n).keep hgl
       rw [e]
       rwa [Nat.mul_one] at this
      ·intro i hi
       have := HS1.out.S.2.1
       have := HM.out
       simp only [List.length_take, List.length_drop] at hi
       have := HX.out.2.2
       omega
    obtain ⟨hb2, HB2⟩ := hb2
    replace HB2 := Lib.hid HB2
    clear hmd hz
    gi_wp2
    have HSX : Hid ((fun Y => Y.cell? ⟨w.heap.size, 0, none⟩ = some (.func (.func 190) #[] #[.pointer (some ⟨q1, 0, none⟩), .pointer (some ⟨q2, 0, none⟩)]) ∧ Y.cell? ⟨bo, 0, none⟩ = some (.slice (some ⟨ga, 0, none⟩) m ca) ∧ Y.cell? ⟨bs, 0, none⟩ = some (.slice (some ⟨gb, 0, none⟩) m cb)) X.drew) := Lib.hid ⟨c1, c2, c3⟩
    refine wpIn_region_round (fun Y => Y.cell? ⟨w.heap.size, 0, none⟩ = some (.func (.func 190) #[] #[.pointer (some ⟨q1, 0, none⟩), .pointer (some ⟨q2, 0, none⟩)]) ∧ Y.cell? ⟨bo, 0, none⟩ = some (.slice (some ⟨ga, 0, none⟩) m ca) ∧ Y.cell? ⟨bs, 0, none⟩ = some (.slice (some ⟨gb, 0, none⟩) m cb)) hmx (by kernel_rfl) (by rintro ⟨a, w, h⟩; exact h) ?_
    have hH := HSX.out
    refine wpAnyH_take (i := 0) (oi := _) (v := ?_) rfl (by kernel_rfl) (by kernel_rfl) (by kernel_rfl) (fun _ _ _ h => h) (Or.inl ⟨by rfl, ?_⟩) hH ?_
    rotate_left 1
    ·intro Y hSY
     obtain ⟨s1, s2, s3⟩ := hSY
     go_simp
     with_reducible rfl
    try simp only [LY]
    refine wpAnyH_take (i := 1) (oi := _) (v := ?_) rfl (by kernel_rfl) (by kernel_rfl) (by kernel_rfl) (fun _ _ _ h => h) (Or.inl ⟨by rfl, ?_⟩) hH ?_
    rotate_left 1
    ·intro Y hSY
     obtain ⟨s1, s2, s3⟩ := hSY
     go_simp
     with_reducible rfl
    try simp only [LY]
    refine wpAnyH_take (i := 2) (oi := _) (v := ?_) rfl (by kernel_rfl) (by kernel_rfl) (by kernel_rfl) (fun _ _ _ h => h) (Or.inl ⟨by rfl, ?_⟩) hH ?_
    rotate_left 1
    ·intro Y hSY
     obtain ⟨s1, s2, s3⟩ := hSY
     go_simp
     with_reducible rfl
    try simp only [LY]
    refine wpAnyH_take (i := 3) (oi := _) (v := ?_) rfl (by kernel_rfl) (by kernel_rfl) (by kernel_rfl) (fun _ _ _ h => h) (Or.inl ⟨by rfl, ?_⟩) hH ?_
    rotate_left 1
    ·intro Y hSY
     obtain ⟨s1, s2, s3⟩ := hSY
     go_simp
     with_reducible rfl
    try simp only [LY]
    refine wpAnyH_take (i := 4) (oi := _) (v := ?_) rfl (by kernel_rfl) (by kernel_rfl) (by kernel_rfl) (fun _ _ _ h => h) (Or.inl ⟨by rfl, ?_⟩) hH ?_
    rotate_left 1
    ·intro Y hSY
     obtain ⟨s1, s2, s3⟩ := hSY
     go_simp
     with_reducible rfl
    try simp only [LY]
    refine wpAnyH_take (i := 5) (oi := _) (v := ?_) rfl (by kernel_rfl) (by kernel_rfl) (by kernel_rfl) (fun _ _ _ h => h) (Or.inl ⟨by rfl, ?_⟩) hH ?_
    rotate_left 1
    ·intro Y hSY
     obtain ⟨s1, s2, s3⟩ := hSY
     go_simp
     with_reducible rfl
    try simp only [LY]
    refine wpAnyH_take (i := 6) (oi := _) (v := ?_) rfl (by kernel_rfl) (by kernel_rfl) (by kernel_rfl) (fun _ _ _ h => h) (Or.inl ⟨by rfl, ?_⟩) hH ?_
    rotate_left 1
    ·intro Y hSY
     obtain ⟨s1, s2, s3⟩ := hSY
     go_simp
     with_reducible rfl
    try simp only [LY]
    refine wpAnyH_take (i := 7) (oi := _) (v := ?_) rfl (by kernel_rfl) (by kernel_rfl) (by kernel_rfl) (fun _ _ _ h => h) (Or.inl ⟨by rfl, ?_⟩) hH ?_
    rotate_left 1
    ·intro Y hSY
     obtain ⟨s1, s2, s3⟩ := hSY
     go_simp
     with_reducible rfl
    try simp only [LY]
    refine wpAnyH_take (i := 8) (oi := _) (v := ?_) rfl (by kernel_rfl) (by kernel_rfl) (by kernel_rfl) (fun _ _ _ h => h) (Or.inl ⟨by rfl, ?_⟩) hH ?_
    rotate_left 1
    ·intro Y hSY
     obtain ⟨s1, s2, s3⟩ := hSY
     go_simp
     with_reducible rfl
    try simp only [LY]
    refine wpAnyH_take (i := 9) (oi := _) (v := ?_) rfl (by kernel_rfl) (by kernel_rfl) (by kernel_rfl) (fun _ _ _ h => h) (Or.inl ⟨by rfl, ?_⟩) hH ?_
    rotate_left 1
    ·intro Y hSY
     obtain ⟨s1, s2, s3⟩ := hSY
     go_simp
     with_reducible rfl
    try simp only [LY]
    refine wpAnyH_take (i := 10) (oi := _) (v := ?_) rfl (by kernel_rfl) (by kernel_rfl) (by kernel_rfl) (fun _ _ _ h => h) (Or.inl ⟨by rfl, ?_⟩) hH ?_
    rotate_left 1
    ·intro Y hSY
     obtain ⟨s1, s2, s3⟩ := hSY
     go_simp
     with_reducible rfl
    try simp only [LY]
    refine wpAnyH_take (i := 11) (oi := _) (v := ?_) rfl (by kernel_rfl) (by kernel_rfl) (by kernel_rfl) (fun _ _ _ h => h) (Or.inl ⟨by rfl, ?_⟩) hH ?_
    rotate_left 1
    ·intro Y hSY
     obtain ⟨s1, s2, s3⟩ := hSY
     go_simp
     with_reducible rfl
    try simp only [LY]
    refine wpAnyH_take (i := 12) (oi := _) (v := ?_) rfl (by kernel_rfl) (by kernel_rfl) (by kernel_rfl) (fun _ _ _ h => h) (Or.inl ⟨by rfl, ?_⟩) hH ?_
    rotate_left 1
    ·intro Y hSY
     obtain ⟨s1, s2, s3⟩ := hSY
     go_simp
     with_reducible rfl
    try simp only [LY]
    refine wpAnyH_ready (rs := [13]) (by kernel_rfl) (by simp) ?_
    refine AllReadyH.cons rfl (fun K hK => ?_) AllReadyH.nil
    go_simp
    go_at_call 220
    have hll : l.length = m := HS1.out.S.2.1.trans HM.out
    have hgaX : X.heap[ga]? = W1.heap[ga]? := hX.out.block ga (by obtain ⟨cur, h1, _⟩ := HS1.out.ha; exact (Array.getElem?_eq_some_iff.1 h1).1) (fun e => HS1.out.d.1 (by injection e))
    have hgal : ga < X.heap.size := by
     obtain ⟨cur, h1, _⟩ := HS1.out.ha
     exact (Array.getElem?_eq_some_iff.1 (hgaX.trans h1)).1
    have hgbl : gb < W1.heap.size := by obtain ⟨cur, h1, _⟩ := HS1.out.hb; exact (Array.getElem?_eq_some_iff.1 h1).1
    have hgbW : gb < W.heap.size := by obtain ⟨cur, h1, _⟩ := HS.out.hb; exact (Array.getElem?_eq_some_iff.1 h1).1
    have hE : ∀ (k : Nat), ∀ y ∈ (l.drop (k * n)).take n, y ∈ L := fun k y hy => List.mem_of_mem_drop (List.mem_of_mem_take ((HS1.out.S.2.2 k).mem_iff.1 hy))
    have ek0 : (2 * x.1) * n = fr := by rw [← HX.out.1, Nat.mul_comm 2 x.1, Nat.mul_assoc]
    have ek1 : (2 * x.1 + 1) * n = fr + n := by rw [Nat.add_mul, ek0, Nat.one_mul]
    have hEA := hE (2 * x.1)
    have hEB := hE (2 * x.1 + 1)
    rw [ek0] at hEA
    rw [ek1] at hEB
    have hmdd := HMD.out
    have htt := HX.out.2.2
    have hz := HS1.out.z
    refine (mergei_any w X.drew q1 q2 c L ((l.drop fr).take n) ((l.drop (fr + n)).take n) gb ga zb (fr) (fr) b2 (cb - fr) (ca - fr) (ca - md) (md - fr) (tt - md) 3 HC.out hEA hEB HS1.out.f.2.2.2.2 (fun e => HS1.out.d.1 e.symm) hgal
     (by simp only [List.length_take, List.length_drop]; omega) (by simp only [List.length_take, List.length_drop]; omega) ⟨HJ.out.b.drew, ⟨rfl, rfl, rfl, Nat.le_refl _, fun _ _ _ => rfl⟩, HJ.out.h, fun i hi => by simp at hi, fun _ _ => rfl⟩
     (by have := (HS1.out.r.piece fr n).keep hgaX; rwa [Nat.mul_one] at this) HB2.out (by omega) (by omega) (by omega) (by omega) (by omega)).mono ?_
    rintro e w1 ⟨⟨v, rfl⟩, hM⟩
    have hg : X.grownBy w1 (some gb) := ⟨hM.g.os, hM.g.tape, hM.g.output, hM.g.size, hM.g.block⟩
    have hM2 : MergeIi w X w1 gb ga 3 zb (x.1 * (2 * n) * 1) (mergeL c ((l.drop (x.1 * (2 * n))).take n) ((l.drop (x.1 * (2 * n) + n)).take n)) := by
     rw [HX.out.1]
     have h := hM.r
     have k := hM.k
     rw [Nat.mul_one]
     exact ⟨hM.b, hg, hM.h, h, k⟩
    have hbx : ∀ (b : Nat) (t : TypeId) (v : Value), b < W1.heap.size → b ≠ gb → Boxed W1 b t v → Boxed w1 b t v := fun b t v h1 h2 h => Eq.trans (hg.block b (Nat.lt_of_lt_of_le h1 hX.out.size) (fun e => h2 (by injection e))) (Eq.trans (hX.out.block b h1 (fun e => h2 (by injection e))) h)
    have HFIN : Hid (KeepsFrom W1.heap.size X w1 ∧ KpBk W.heap.size X w1 ∧ SortJi w W1 w1 gb 3 zb c' n l (pre ++ [x]).length ((pre ++ [x]).map (·.1) = List.range (pre ++ [x]).length)) := Lib.hid ⟨KeepsFrom.of_grownBy hg (fun j e => by injection e with e; omega),
     ⟨hg.block _ (by have := hX.out.size; omega) (fun e => by injection e with e; omega), hg.block _ (by have := hX.out.size; omega) (fun e => by injection e with e; omega)⟩, by
      rw [List.length_append]
      refine HJ.out.step HO.out (by omega) HST.out HS1.out.S hM2 (by rw [hll]; exact x.2) fun ho => ?_
      simp only [List.map_append, List.map_cons, List.map_nil, List.length_cons, List.length_nil, List.range_succ] at ho
      have h2 := List.append_inj' ho rfl
      exact ⟨h2.1, by simpa using h2.2⟩⟩
    have HSW : Hid ((fun Y => Y.cell? ⟨w.heap.size, 0, none⟩ = some (.func (.func 190) #[] #[.pointer (some ⟨q1, 0, none⟩), .pointer (some ⟨q2, 0, none⟩)]) ∧ Y.cell? ⟨bo, 0, none⟩ = some (.slice (some ⟨ga, 0, none⟩) m ca) ∧ Y.cell? ⟨bs, 0, none⟩ = some (.slice (some ⟨gb, 0, none⟩) m cb)) w1) := Lib.hid ⟨(hbx _ _ _ HS1.out.c.lt HS1.out.d.2.2.1 HS1.out.c).cell, (hbx _ _ _ HS1.out.o.lt HS1.out.d.2.2.2.2.1 HS1.out.o).cell, (hbx _ _ _ HS1.out.s.lt HS1.out.d.2.2.2.2.2.2.1 HS1.out.s).cell⟩
    clear hg hM2 hbx hM hEA hEB hE ek0 ek1 hmdd htt hz hgaX hgal hgbl hgbW hll
    go_wp2_with fail
    refine hK.out _ _ HSW.out (fun hH => ?_)
    clear hK K
    refine wpAnyH_done (by kernel_rfl) ?_ _
    exact ⟨HFIN.out.1, HFIN.out.2.1, Lib.hid HFIN.out.2.2⟩
   case done =>
    rintro D ys X hD hS HJ hK
    have hll : l.length = m := HS1.out.S.2.1.trans HM.out
    obtain ⟨M, hMr, hMS⟩ := HJ.out.fin hS.1 HS1.out.S (by rw [hll]; exact hS.2)
    have HMS := Lib.hid (And.intro hMr hMS)
    have hg := HJ.out.g
    have hbx : ∀ (b : Nat) (t : TypeId) (v : Value), b ≠ gb → Boxed W1 b t v → Boxed X b t v := fun b t v h2 h => Eq.trans (hg.block b h.lt (fun e => h2 (by injection e))) h
    have bC := hbx _ _ _ HS1.out.d.2.2.1 HS1.out.c
    have bO := hbx _ _ _ HS1.out.d.2.2.2.2.1 HS1.out.o
    have bS := hbx _ _ _ HS1.out.d.2.2.2.2.2.2.1 HS1.out.s
    have bN := hbx _ _ _ (by have := HS1.out.e; omega) HS1.out.nn
    have HA : Hid (∃ cur, X.heap[ga]? = some (.cells cur 3 (0, 0)) ∧ cur.size = za) := Lib.hid (by
     obtain ⟨cur, h1, h2⟩ := HS1.out.ha
     exact ⟨cur, (hg.block ga (Array.getElem?_eq_some_iff.1 h1).1 (fun e => HS1.out.d.1 (by injection e))).trans h1, h2⟩)
    have HB := Lib.hid HJ.out.h
    have HBX := Lib.hid HJ.out.b
    have HMX : Hid (MarkOk w.heap.size X ({ target := .collected D, args := #[] } :: ds)) := Lib.hid ((HMK1.out.keep fun E h => (hg.block E (Array.getElem?_eq_some_iff.1 h).1 (fun e => by
     injection e with e
     subst e
     obtain ⟨cur, h1, _⟩ := HS1.out.hb
     rw [h1] at h
     cases h)).trans h).cons (by have := HS1.out.b.size; omega) hK (fun E hE => by have := HMK1.out.lt E hE; omega))
    have c1 := bO.cell
    have c2 := bS.cell
    have c3 := bN.cell
    have f1 := bO.frozen
    have f2 := bS.frozen
    have HBC := Lib.hid (And.intro bC (And.intro bO bS))
    have hdos := HS1.out.d.2.2.2.2.2.2.2.1
    have hens := HS1.out.e
    have hn1' : ¬ bn = bo := by omega
    have hn2' : ¬ bn = bs := by omega
    have hn3' : ¬ bs = bo := fun e => hdos e.symm
    have hoX := bO.lt
    have hsX := bS.lt
    clear hg hbx bC bO bS bN hMr hMS hS HJ hK hens
    go_wp2
    have sz1 : ∀ (Z : World) (b : Nat) (v : Value), (Z.setCell ⟨b, 0, none⟩ v).heap.size = Z.heap.size := fun Z b v => by simp
    have kY : ∀ k, k < X.heap.size → k ≠ bo → k ≠ bs → (((X.setCell ⟨bo, 0, none⟩ (.slice (some ⟨gb, 0, none⟩) m cb)).setCell ⟨bs, 0, none⟩ (.slice (some ⟨ga, 0, none⟩) m ca)).alloc (.cells #[.int .i64 ((n : Int) * 2)] 3)).heap[k]? = X.heap[k]? := fun k h1 h2 h3 => by
     rw [Below.heap_alloc _ _ _ (by rw [sz1, sz1]; exact h1), Below.heap_setCell _ _ _ _ h3, Below.heap_setCell _ _ _ _ h2]
    have hgal : ga < X.heap.size := by obtain ⟨cur, h1, _⟩ := HA.out; exact (Array.getElem?_eq_some_iff.1 h1).1
    have hgbl : gb < X.heap.size := by obtain ⟨cur, h1, _⟩ := HB.out; exact (Array.getElem?_eq_some_iff.1 h1).1
    have hcl := HBC.out.1.lt
    have hd := HS1.out.d
    have hf := HS1.out.f
    have hz := HS1.out.z
    have hw := HBX.out.size
    have HSY : Sorti w (((X.setCell ⟨bo, 0, none⟩ (.slice (some ⟨gb, 0, none⟩) m cb)).setCell ⟨bs, 0, none⟩ (.slice (some ⟨ga, 0, none⟩) m ca)).alloc (.cells #[.int .i64 ((n : Int) * 2)] 3)) w.heap.size bo bs X.heap.size gb ga cb ca zb za (2 * n) m (.func (.func 190) #[] #[.pointer (some ⟨q1, 0, none⟩), .pointer (some ⟨q2, 0, none⟩)]) c' L M := by
     refine ⟨((HBX.out.grown (grownBy_setCell' _ _ _) (by omega) (fun k e => by injection e with e; omega)).grown (grownBy_setCell' _ _ _) (by rw [sz1]; omega) (fun k e => by injection e with e; omega)).alloc (by rw [sz1, sz1]; omega) _, ?_, ?_, ?_, ?_, ?_, ?_, ?_, ?_, ?_, ?_, ?_, HMS.out.2⟩
     ·exact Eq.trans (kY _ hcl hd.2.2.2.2.2.2.2.2.1 hd.2.2.2.2.2.2.2.2.2) HBC.out.1
     ·exact (((HBC.out.2.1).set _).other hdos _).alloc _
     ·exact (((HBC.out.2.2).other hn3' _).set _).alloc _
     ·have h := heap_alloc_new ((X.setCell ⟨bo, 0, none⟩ (.slice (some ⟨gb, 0, none⟩) m cb)).setCell ⟨bs, 0, none⟩ (.slice (some ⟨ga, 0, none⟩) m ca)) (.cells #[.int .i64 ((n : Int) * 2)] 3)
      rw [sz1, sz1] at h
      unfold Boxed
      rw [h, show (n : Int) * 2 = ((2 * n : Nat) : Int) by omega]
     ·obtain ⟨cur, h1, h2⟩ := HB.out
      exact ⟨cur, (kY _ hgbl (by omega) (by omega)).trans h1, h2⟩
     ·obtain ⟨cur, h1, h2⟩ := HA.out
      exact ⟨cur, (kY _ hgal (by omega) (by omega)).trans h1, h2⟩
     ·omega
     ·omega
     ·omega
     ·omega
     ·exact HMS.out.1.keep (kY _ hgbl (by omega) (by omega))
    have HMY : MarkOk w.heap.size (((X.setCell ⟨bo, 0, none⟩ (.slice (some ⟨gb, 0, none⟩) m cb)).setCell ⟨bs, 0, none⟩ (.slice (some ⟨ga, 0, none⟩) m ca)).alloc (.cells #[.int .i64 ((n : Int) * 2)] 3)) ({ target := .collected D, args := #[] } :: ds) := HMX.out.keep fun E h => (kY E (Array.getElem?_eq_some_iff.1 h).1 (fun e => by subst e; rw [show X.heap[_]? = _ from HBC.out.2.1] at h; cases h) (fun e => by subst e; rw [show X.heap[_]? = _ from HBC.out.2.2] at h; cases h)).trans h
    exact Handed.intro (2 * m - 2 * n) (by omega) (hJ _ _ _ ⟨2 * n, X.heap.size, gb, ga, cb, ca, zb, za, M, _, _, _, _, _, _, _, _, _, _, _, _, _, _, _, rfl, rfl, by omega, by omega, Lib.hid HSY, Lib.hid HMY⟩)
  ·have hlt' : ¬ (n : Int) < (m : Int) := by omega
   go_wp2
   refine leaves_marks (base := w.heap.size) (fun W' => results_tmp rfl _ _ W') ds W HMK.out fun W' hs => ?_
   obtain ⟨hs1, hs2⟩ := sortS_whole c' n L l HS.out.S (by have := HM.out; omega)
   obtain ⟨cur, h1, h2⟩ := HS.out.ha
   have h3 := hs.c _ _ _ h1
   exact ⟨ga, ⟨ca, rfl⟩, ⟨za, l, Lib.hid ⟨HS.out.f.2.2.2.1, ⟨cur, h3, h2⟩, HS.out.r.keep (h3.trans h1.symm), hs1, hs2⟩⟩, HS.out.b.trans hs.b⟩
end Go.Proofs.YtcpkjmpbpmeclaaGreatDoor
namespace Go.Proofs.YtcpkjmpbpmeclaaGreatDoor
open Go.RowKit
set_option maxRecDepth 100000
set_option linter.unusedVariables false
set_option linter.unusedSimpArgs false
set_option linter.unnecessarySimpa false

theorem pair_load {w W : World} {g off i m : Nat} {L : List ELp} (h : ERowp w g off L) (hb : Below w.heap.size w W) (hi : i < L.length) : Sem.run Tryz.prog (loadVar 123 ⟨g, off + i * 17, none⟩) W = .ok (argp L[i]) W :=
 run_loadVar_mid W g (off + i * 17) 123 (encp L[i]) _ (fun j v hv => keep1 hb (h i hi j v hv)) Tryz.underlying123 rfl rfl
set_option maxHeartbeats 8000000 in
theorem twice1W (q1 q2 g off m cap i j : Nat) (Xp Xq : Array Value) (z : Int) (w : World) (c1 : w.cell? ⟨q1, 0, none⟩ = some (.func (.func 128) #[] #[])) (c2 : w.cell? ⟨q2, 0, none⟩ = some (.slice (some ⟨g, off, none⟩) m cap))
  (hi : i < m) (hj : j < m) (hlp : ∀ W, Below w.heap.size w W → Sem.run Tryz.prog (loadVar 123 ⟨g, off + i * 17, none⟩) W = .ok (.agg Xp) W) (hlq : ∀ W, Below w.heap.size w W → Sem.run Tryz.prog (loadVar 123 ⟨g, off + j * 17, none⟩) W = .ok (.agg Xq) W)
  (HCALL : Hid (∀ W, Below w.heap.size w W → Calls Tryz.prog 128 #[.agg Xp, .agg Xq] W fun e w' => e = .returned (.int .i64 z) ∧ Below W.heap.size W w')) :
  Calls Tryz.prog 190 #[.int .i64 (i : Nat), .int .i64 (j : Nat), .pointer (some ⟨q1, 0, none⟩), .pointer (some ⟨q2, 0, none⟩)] w fun e w' => e = .returned (.int .i64 z) ∧ Below w.heap.size w w' := by
 have hi0 : (0 : Int) ≤ (i : Int) := by omega
 have hj0 : (0 : Int) ≤ (j : Int) := by omega
 have hi1 : (i : Int) < (m : Int) := by omega
 have hj1 : (j : Int) < (m : Int) := by omega
 have HBD : Hid (Below w.heap.size w w.drew) := Lib.hid (Below.refl _ _).drew
 go_enter Tryz.func190, Tryz.ntmps190
 go_upto_region 1 with fail
 refine wp_region_held_drew (S := fun X => Below w.heap.size w X) (by kernel_rfl) HBD.out (fun hH => ?_)
 refine wpAnyH_take (i := 0) (oi := _) (v := ?_) rfl (by kernel_rfl) (by kernel_rfl) (by kernel_rfl) (fun _ _ _ h => h) (Or.inl ⟨by rfl, ?_⟩) hH ?_
 rotate_left 1
 ·intro Y hSY
  have s1 := keep1 hSY c1; have s2 := keep1 hSY c2
  go_simp
  with_reducible rfl
 try simp only [LY]
 refine wpAnyH_take (i := 1) (oi := _) (v := ?_) rfl (by kernel_rfl) (by kernel_rfl) (by kernel_rfl) (fun _ _ _ h => h) (Or.inl ⟨by rfl, ?_⟩) hH ?_
 rotate_left 1
 ·intro Y hSY
  have s1 := keep1 hSY c1; have s2 := keep1 hSY c2
  go_simp
  with_reducible rfl
 try simp only [LY]
 refine wpAnyH_take (i := 2) (oi := _) (v := ?_) rfl (by kernel_rfl) (by kernel_rfl) (by kernel_rfl) (fun _ _ _ h => h) (Or.inl ⟨by rfl, ?_⟩) hH ?_
 rotate_left 1
 ·intro Y hSY
  have s1 := keep1 hSY c1; have s2 := keep1 hSY c2
  go_simp
  with_reducible rfl
 try simp only [LY]
 refine wpAnyH_take (i := 3) (oi := _) (v := ?_) rfl (by kernel_rfl) (by kernel_rfl) (by kernel_rfl) (fun _ _ _ h => h) (Or.inl ⟨by rfl, ?_⟩) hH ?_
 rotate_left 1
 ·intro Y hSY
  have s1 := keep1 hSY c1; have s2 := keep1 hSY c2
  go_simp
  with_reducible rfl
 try simp only [LY]
 refine wpAnyH_take (i := 4) (oi := _) (v := .agg Xp) rfl (by kernel_rfl) (by kernel_rfl) (by kernel_rfl) (fun _ _ _ h => h) (yieldsIf_run (by rfl) _ _ rfl _ rfl _ (fun Y hY => hlp Y hY)) hH ?_
 try simp only [LY]
 refine wpAnyH_take (i := 5) (oi := _) (v := ?_) rfl (by kernel_rfl) (by kernel_rfl) (by kernel_rfl) (fun _ _ _ h => h) (Or.inl ⟨by rfl, ?_⟩) hH ?_
 rotate_left 1
 ·intro Y hSY
  have s1 := keep1 hSY c1; have s2 := keep1 hSY c2
  go_simp
  with_reducible rfl
 try simp only [LY]
 refine wpAnyH_take (i := 6) (oi := _) (v := ?_) rfl (by kernel_rfl) (by kernel_rfl) (by kernel_rfl) (fun _ _ _ h => h) (Or.inl ⟨by rfl, ?_⟩) hH ?_
 rotate_left 1
 ·intro Y hSY
  have s1 := keep1 hSY c1; have s2 := keep1 hSY c2
  go_simp
  with_reducible rfl
 try simp only [LY]
 refine wpAnyH_take (i := 7) (oi := _) (v := ?_) rfl (by kernel_rfl) (by kernel_rfl) (by kernel_rfl) (fun _ _ _ h => h) (Or.inl ⟨by rfl, ?_⟩) hH ?_
 rotate_left 1
 ·intro Y hSY
  have s1 := keep1 hSY c1; have s2 := keep1 hSY c2
  go_simp
  with_reducible rfl
 try simp only [LY]
 refine wpAnyH_take (i := 8) (oi := _) (v := .agg Xq) rfl (by kernel_rfl) (by kernel_rfl) (by kernel_rfl) (fun _ _ _ h => h) (yieldsIf_run (by rfl) _ _ rfl _ rfl _ (fun Y hY => hlq Y hY)) hH ?_
 try simp only [LY]
 refine wpAnyH_ready (rs := [9]) (by kernel_rfl) (by simp) ?_
 refine AllReadyH.cons rfl (fun K hK => ?_) AllReadyH.nil
 go_simp
 go_at_call 128
 refine (HCALL.out _ HBD.out).mono ?_
 rintro e w1 ⟨rfl, hb1'⟩
 have hb1 := Lib.hid (trans_b hH hb1')
 clear hb1' hH
 go_wp2_with fail
 refine hK.out _ _ hb1.out (fun hH => ?_)
 clear hK K
 try simp only [LY]
 refine wpAnyH_take (i := 10) (oi := _) (v := ?_) rfl (by kernel_rfl) (by kernel_rfl) (by kernel_rfl) (fun _ _ _ h => h) (Or.inl ⟨by rfl, ?_⟩) hH ?_
 rotate_left 1
 ·intro Y hSY
  skip
  go_simp
  with_reducible rfl
 try simp only [LY]
 refine wpAnyH_done (by kernel_rfl) ?_ _
 go_wp2
 go_ret
 exact ⟨rfl, hb1.out⟩
theorem twice1_any (c : ELp → ELp → Int) (L : List ELp) (w : World) (q1 q2 g off m cap : Nat) (gf : Int → ELp) (c1 : w.cell? ⟨q1, 0, none⟩ = some (.func (.func 128) #[] #[])) (c2 : w.cell? ⟨q2, 0, none⟩ = some (.slice (some ⟨g, off, none⟩) m cap))
  (hr : ERowp w g off L) (hL : L.length = m) (hc : Cmpp w c L) (hg : ∀ (i : Nat) (h : i < L.length), gf (i : Int) = L[i]) : Cmpi w q1 q2 (fun x y => c (gf x) (gf y)) (numsI m) := by
 intro x hx y hy W hW
 obtain ⟨i, hi, rfl⟩ := numsI_mem.1 hx
 obtain ⟨j, hj, rfl⟩ := numsI_mem.1 hy
 have hi' : i < L.length := by omega
 have hj' : j < L.length := by omega
 have e : (fun x y => c (gf x) (gf y)) (i : Int) (j : Int) = c L[i] L[j] := by show c (gf i) (gf j) = _; rw [hg i hi', hg j hj']
 rw [e]
 refine twice1W q1 q2 g off m cap i j (encp L[i]).toArray (encp L[j]).toArray (c L[i] L[j]) W (keep1 hW c1) (keep1 hW c2) hi hj (fun X hX => pair_load (m := m) hr (trans_b hW hX) hi') (fun X hX => pair_load (m := m) hr (trans_b hW hX) hj')
  (Lib.hid fun X hX => hc _ (List.getElem_mem hi') _ (List.getElem_mem hj') X (trans_b hW hX))
end Go.Proofs.YtcpkjmpbpmeclaaGreatDoor
namespace Go.Proofs.YtcpkjmpbpmeclaaGreatDoor
open Go.RowKit
set_option maxRecDepth 100000
set_option linter.unusedVariables false
set_option linter.unusedSimpArgs false
set_option linter.unnecessarySimpa false

/-- While the places are numbered: 'q2': the box of the list, 'q1' of the order. -/
structure Plc (w W : World) (q1 q2 gp g off cap i m : Nat) : Prop where
 b : Below w.heap.size w W
 c1 : Boxed W q1 124 (.func (.func 128) #[] #[])
 c2 : Boxed W q2 119 (.slice (some ⟨g, off, none⟩) m cap)
 h : ∃ cur, W.heap[gp]? = some (.cells cur 3 (0, 0)) ∧ cur.size = m ∧ ∀ j, j < i → cur[j]? = some (.int .i64 (j : Nat))
 d : w.heap.size ≤ gp ∧ q1 ≠ gp ∧ q2 ≠ gp
theorem Plc.put {w W : World} {q1 q2 gp g off cap i m : Nat} (h : Plc w W q1 q2 gp g off cap i m) (hi : i < m) : Plc w (W.setCell ⟨gp, i, none⟩ (.int .i64 (i : Nat))) q1 q2 gp g off cap (i + 1) m := by
 obtain ⟨cur, h1, h2, h3⟩ := h.h
 have hd := h.d
 have hg : W.grownBy (W.setCell ⟨gp, i, none⟩ (.int .i64 (i : Nat))) (some gp) := ⟨rfl, rfl, rfl, (KeepsWalks.setCell W _ _).size, fun k _ hk => Below.heap_setCell _ _ _ k (fun e => hk (by rw [e]))⟩
 refine ⟨h.b.grown hg h.b.size (fun k e => by injection e with e; omega), Eq.trans (Below.heap_setCell _ _ _ _ hd.2.1) h.c1, Eq.trans (Below.heap_setCell _ _ _ _ hd.2.2) h.c2, ⟨_, heap_setCell_same W gp i cur _ _ h1, by rw [Array.size_setIfInBounds]; exact h2, fun j hj => ?_⟩, hd⟩
 rw [Array.getElem?_setIfInBounds]
 by_cases e : i = j
 ·subst e
  rw [if_pos rfl, if_pos (by omega)]
 ·rw [if_neg e]
  exact h3 j (by omega)
theorem Plc.row {w W : World} {q1 q2 gp g off cap m : Nat} (h : Plc w W q1 q2 gp g off cap m m) : ERowi W gp 0 (numsI m) := fun i hi k u hu => by
 obtain ⟨cur, h1, h2, h3⟩ := h.h
 have hk : k < 1 := by have := (List.getElem?_eq_some_iff.1 hu).1; rwa [enci_len] at this
 obtain rfl : k = 0 := by omega
 rw [numsI_get] at hu
 simp only [enci, List.getElem?_cons_zero, Option.some.injEq] at hu
 subst hu
 rw [cell_of_row _ _ _ _ _ _ h1, show 0 + i * 1 + 0 = i by omega]
 exact h3 i (by rw [numsI_len] at hi; exact hi)
/-- While neighbours are held against each other: 'Ws': the world behind the sorting. -/
structure Twc (Ws W : World) (c : ELp → ELp → Int) (gf : Int → ELp) (R : List Int) (k : Nat) (f : Int) : Prop where
 b : Below Ws.heap.size Ws W
 t : TwiceI c gf R k f
set_option maxHeartbeats 16000000 in
theorem twiceW (g off cap m : Nat) (c : ELp → ELp → Int) (L : List ELp) (w : World) (gf : Int → ELp) (hL : L.length = m) (hm0 : 0 < m) (hm1 : m ≤ 1000000000) (hr : ERowp w g off L) (hc : Cmpp w c L) (hO : OrdC c) (hg : ∀ (i : Nat) (h : i < L.length), gf (i : Int) = L[i]) :
  Calls Tryz.prog 129 #[.slice (some ⟨g, off, none⟩) m cap, .func (.func 128) #[] #[]] w fun e w' => ∃ f : Int, e = .returned (.int .i64 f) ∧ Hid (TwiceAt c gf m f) ∧ Below w.heap.size w w' := by
 obtain ⟨i0, z0, hi, hz0, hz1, hz2, hzs⟩ := infoi3
 obtain ⟨Z, hZ⟩ : ∃ Z, madeCells z0.cells (m * 1) = Z := ⟨_, rfl⟩
 have hZs : Z.size = m := by rw [← hZ, size_madeCells, Nat.mul_one]
 have hmk : ∀ W : World, (Instr.makeSlice 93 (.int .i64 (m : Nat)) (.int .i64 (m : Nat))).run Tryz.prog W = .ok (.slice (some ⟨W.heap.size, 0, none⟩) m m) (W.alloc (.cells Z 3)) := fun W => by
  have h := run_make (P := Tryz.prog) W 93 3 i0 z0 Tryz.underlying93 hi hz0 .i64 .i64 (m : Nat) (m : Nat) (by omega) (by omega) (by rw [hz2]; omega) (by omega)
  rw [Int.toNat_natCast, hz1, hZ] at h
  exact h
 have qf : ∀ w : World, (binOp .eql 124 (.func (.func 128) #[] #[]) .nilFunc).run Tryz.prog w = .ok (.bool false) w := fun w => by kernel_rfl
 have HZS := Lib.hid hZs
 have HC := Lib.hid hc
 have HO := Lib.hid hO
 have HR := Lib.hid hr
 have HG := Lib.hid hg
 have HL := Lib.hid hL
 clear hZ hi hz0 hz1 hz2 hzs hr hc hO hg hL hZs
 go_enter Tryz.func129, Tryz.ntmps129
 go_wp2
 have P0 : Hid (Plc w (((w.alloc (.cells #[.slice (some ⟨g, off, none⟩) m cap] 119)).alloc (.cells #[.func (.func 128) #[] #[]] 124)).alloc (.cells Z 3)) (w.heap.size + 1) w.heap.size (w.heap.size + 1 + 1) g off cap 0 m) := Lib.hid (by
  have old : ∀ (X : World) (o : Obj) (i : Nat), i < X.heap.size → (X.alloc o).heap[i]? = X.heap[i]? := fun X o i hi => Below.heap_alloc X o i hi
  have new : ∀ (X : World) (o : Obj) (i : Nat), i = X.heap.size → (X.alloc o).heap[i]? = some o := fun X o i hi => by rw [hi]; exact heap_alloc_new X o
  refine ⟨((((Below.refl _ w).alloc (Nat.le_refl _) _).alloc (by simp) _).alloc (by simp; omega) _), ?_, ?_, ⟨Z, ?_, HZS.out, fun j hj => absurd hj (Nat.not_lt_zero _)⟩, by omega, by omega, by omega⟩
  ·unfold Boxed
   rw [old _ _ _ (by simp <;> omega), new _ _ _ (by simp)]
  ·unfold Boxed
   rw [old _ _ _ (by simp <;> omega), old _ _ _ (by simp <;> omega), new _ _ _ rfl]
  ·rw [new _ _ _ (by simp)])
 generalize (((w.alloc (.cells #[.slice (some ⟨g, off, none⟩) m cap] 119)).alloc (.cells #[.func (.func 128) #[] #[]] 124)).alloc (.cells Z 3)) = W0 at *
 generalize w.heap.size + 1 + 1 = gp at *
 generalize hq1 : w.heap.size + 1 = q1 at *
 go_loopw [16] (fun t W => ∃ i : Nat, t = .int .i64 (i : Nat) ∧ i ≤ m ∧ Hid (Plc w W q1 w.heap.size gp g off cap i m)) (fun t _ => m - (intOf t).toNat)
 case atStart => exact ⟨0, rfl, Nat.zero_le _, P0⟩
 case round =>
  obtain ⟨i, rfl, him, HP⟩ := hrel
  by_cases hlt : i < m
  ·have hlt2 : (i : Int) < (m : Int) := by omega
   have hi0 : (0 : Int) ≤ (i : Int) := by omega
   obtain ⟨cur, h1, h2, h3⟩ := HP.out.h
   have hcl : ∃ v, wr.cell? ⟨gp, i, none⟩ = some v := ⟨_, (cell_of_row _ _ _ _ _ _ h1).trans (Array.getElem?_eq_getElem (by omega))⟩
   obtain ⟨v0, hcl⟩ := hcl
   have hfr : wr.frozen? ⟨gp, i, none⟩ = false := by simp [World.frozen?, h1]
   have HP2 := Lib.hid (HP.out.put hlt)
   clear h1 h2 h3
   go_wp2
   go_roundw
   case rel => exact ⟨i + 1, by go_num, hlt, HP2⟩
   case measure => simp [intOf]; omega
  ·obtain rfl : i = m := by omega
   have HRW := Lib.hid HP.out.row
   have bQ1 := HP.out.c1
   have bQ2 := HP.out.c2
   have hpb := Lib.hid HP.out.b
   have hpd := HP.out.d
   have HCM : Hid (Cmpi wr q1 w.heap.size (fun x y => c (gf x) (gf y)) (numsI i)) := Lib.hid (twice1_any c L wr q1 w.heap.size g off i cap gf bQ1.cell bQ2.cell (fun j hj k u hu => keep1 hpb.out (HR.out j hj k u hu)) HL.out (fun x hx y hy W hW => HC.out x hx y hy W (trans_b hpb.out hW)) HG.out)
   have HSO : Hid (Calls Tryz.prog 189 #[.slice (some ⟨gp, 0, none⟩) i i, .func (.func 190) #[] #[.pointer (some ⟨q1, 0, none⟩), .pointer (some ⟨w.heap.size, 0, none⟩)]] wr fun e w' => ∃ gb cap' csz R, e = .returned (.slice (some ⟨gb, 0, none⟩) i cap') ∧
     Hid (wr.heap.size ≤ gb ∧ (∃ cur, w'.heap[gb]? = some (.cells cur 3 (0, 0)) ∧ cur.size = csz) ∧ ERowi w' gb 0 R ∧ SortedC (lexI c gf) R ∧ R.Perm (numsI i)) ∧ Below wr.heap.size wr w') :=
    Lib.hid (sorti_any q1 w.heap.size gp 0 i i (fun x y => c (gf x) (gf y)) (lexI c gf) (numsI i) wr (numsI_len i) hm0 hm1 HRW.out HCM.out (lexI_ord HO.out gf) (lexI_stab gf i))
   have cQ1 := bQ1.cell
   have cQ2 := bQ2.cell
   clear bQ1 bQ2 HCM HRW
   go_wp2_with (go_at_call 189; go_must (refine HSO.out.mono ?_); go_must (rintro e w1 ⟨gb, cp, csz, R, rfl, HR1, hb1⟩; have HB1 := Lib.hid hb1; clear hb1))
   have hlr : R.length = i := by have := HR1.out.2.2.2.2.length_eq; rwa [numsI_len] at this
   have HLR := Lib.hid hlr
   clear hlr
   obtain ⟨W2, rfl⟩ : ∃ W2, W2 = wr := ⟨_, rfl⟩
   go_loopw [7, 8] (fun t u W => ∃ (f : Int) (j : Nat), t = .int .i64 f ∧ u = .int .i64 (j : Nat) ∧ 1 ≤ j ∧ j ≤ i ∧ -1 ≤ f ∧ f ≤ 1000000000 ∧ Hid (Twc w1 W c gf R (j - 1) f)) (fun _ u _ => i - (intOf u).toNat)
   case atStart => exact ⟨-1, 1, rfl, rfl, Nat.le_refl _, hm0, by omega, by omega, Lib.hid ⟨Below.refl _ _, twiceI_zero c gf R⟩⟩
   case round =>
    obtain ⟨f, j, rfl, rfl, hj1, hji, hf1, hf2, HT⟩ := hrel
    by_cases hlt : j < i
    ·obtain ⟨k, rfl⟩ : ∃ k, j = k + 1 := ⟨j - 1, by omega⟩
     obtain ⟨hk1, hk2⟩ : k < R.length ∧ k + 1 < R.length := by have := HLR.out; omega
     obtain ⟨a, ha, hae⟩ := numsI_mem.1 (HR1.out.2.2.2.2.mem_iff.1 (List.getElem_mem hk1))
     obtain ⟨b, hb, hbe⟩ := numsI_mem.1 (HR1.out.2.2.2.2.mem_iff.1 (List.getElem_mem hk2))
     have hBW : Below W2.heap.size W2 wr := trans_b HB1.out HT.out.b
     have c1 := keep1 hBW cQ1
     have c2 := keep1 hBW cQ2
     have r1 := HR1.out.2.2.1 k hk1 0 (.int .i64 a) (by rw [hae]; rfl)
     have r2 := HR1.out.2.2.1 (k + 1) hk2 0 (.int .i64 b) (by rw [hbe]; rfl)
     have c3 : wr.cell? ⟨gb, k, none⟩ = some (.int .i64 (a : Nat)) := keep1 HT.out.b (by rw [show 0 + k * 1 + 0 = k by omega] at r1; exact r1)
     have c4 : wr.cell? ⟨gb, k + 1, none⟩ = some (.int .i64 (b : Nat)) := keep1 HT.out.b (by rw [show 0 + (k + 1) * 1 + 0 = k + 1 by omega] at r2; exact r2)
     have hBW0 : Below w.heap.size w wr := trans_b hpb.out hBW
     have haL : a < L.length := by have := HL.out; omega
     have hbL : b < L.length := by have := HL.out; omega
     have hlp : ∀ W, Below wr.heap.size wr W → Sem.run Tryz.prog (loadVar 123 ⟨g, off + a * 17, none⟩) W = .ok (.agg (encp L[a]).toArray) W := fun W hW => pair_load (m := i) HR.out (trans_b hBW0 hW) haL
     have hlq : ∀ W, Below wr.heap.size wr W → Sem.run Tryz.prog (loadVar 123 ⟨g, off + b * 17, none⟩) W = .ok (.agg (encp L[b]).toArray) W := fun W hW => pair_load (m := i) HR.out (trans_b hBW0 hW) hbL
     obtain ⟨z, hz⟩ : ∃ z, c (L[a]'haL) (L[b]'hbL) = z := ⟨_, rfl⟩
     have HCALL : Hid (∀ W, Below wr.heap.size wr W → Calls Tryz.prog 128 #[.agg (encp L[a]).toArray, .agg (encp L[b]).toArray] W fun e w' => e = .returned (.int .i64 z) ∧ Below W.heap.size W w') := Lib.hid fun W hW => by
      rw [← hz]
      exact HC.out _ (List.getElem_mem haL) _ (List.getElem_mem hbL) W (trans_b hBW0 hW)
     have HZ : Hid (c (gf R[k]) (gf R[k + 1]) = z) := Lib.hid (by rw [hae, hbe, HG.out a haL, HG.out b hbL]; exact hz)
     have HAB : Hid (R[k + 1] = (b : Int)) := Lib.hid hbe
     generalize (encp L[a]).toArray = Xp at *
     generalize (encp L[b]).toArray = Xq at *
     have HBD : Hid (Below wr.heap.size wr wr.drew) := Lib.hid (Below.refl _ _).drew
     have HW0 := Lib.hid hBW0
     clear r1 r2 hae hbe hz hBW hBW0 haL hbL
     have HT1 : Hid (TwiceI c gf R k f) := Lib.hid HT.out.t
     have hwk : IntKind.i64.wrap (k : Int) = k := wraps_i64 _ (by omega) (by omega)
     have hk0 : (0 : Int) ≤ (k : Int) := by omega
     have hk10 : (0 : Int) ≤ (k : Int) + 1 := by omega
     have hki : (k : Int) < (i : Int) := by omega
     have hki1 : (k : Int) + 1 < (i : Int) := by omega
     have ha0 : (0 : Int) ≤ (a : Int) := by omega
     have hai : (a : Int) < (i : Int) := by omega
     have hb0 : (0 : Int) ≤ (b : Int) := by omega
     have hbi : (b : Int) < (i : Int) := by omega
     by_cases hzz : z = 0
     ·subst hzz
      by_cases hfn : f < 0
      ·have hfb : decide (f < 0) = true := decide_eq_true hfn
       have HT2 : Hid (TwiceI c gf R (k + 1) (b : Int)) := Lib.hid (by rw [← HAB.out]; exact twiceI_hit c HT1.out hk2 HZ.out (by rw [HAB.out]; omega) (.inl hfn))
       go_upto_region 14 with fail
       refine wp_region_held_drew (S := fun X => Below wr.heap.size wr X) (by kernel_rfl) HBD.out (fun hH => ?_)
       refine wpAnyH_take (i := 0) (oi := _) (v := ?_) rfl (by kernel_rfl) (by kernel_rfl) (by kernel_rfl) (fun _ _ _ h => h) (Or.inl ⟨by rfl, ?_⟩) hH ?_
       rotate_left 1
       ·intro Y hSY
        have s1 := keep1 hSY c1; have s2 := keep1 hSY c2; have s3 := keep1 hSY c3; have s4 := keep1 hSY c4
        go_simp
        with_reducible rfl
       try simp only [LY]
       refine wpAnyH_take (i := 1) (oi := _) (v := ?_) rfl (by kernel_rfl) (by kernel_rfl) (by kernel_rfl) (fun _ _ _ h => h) (Or.inl ⟨by rfl, ?_⟩) hH ?_
       rotate_left 1
       ·intro Y hSY
        have s1 := keep1 hSY c1; have s2 := keep1 hSY c2; have s3 := keep1 hSY c3; have s4 := keep1 hSY c4
        go_simp
        with_reducible rfl
       try simp only [LY]
       refine wpAnyH_take (i := 2) (oi := _) (v := ?_) rfl (by kernel_rfl) (by kernel_rfl) (by kernel_rfl) (fun _ _ _ h => h) (Or.inl ⟨by rfl, ?_⟩) hH ?_
       rotate_left 1
       ·intro Y hSY
        have s1 := keep1 hSY c1; have s2 := keep1 hSY c2; have s3 := keep1 hSY c3; have s4 := keep1 hSY c4
        go_simp
        with_reducible rfl
       try simp only [LY]
       refine wpAnyH_take (i := 3) (oi := _) (v := ?_) rfl (by kernel_rfl) (by kernel_rfl) (by kernel_rfl) (fun _ _ _ h => h) (Or.inl ⟨by rfl, ?_⟩) hH ?_
       rotate_left 1
       ·intro Y hSY
        have s1 := keep1 hSY c1; have s2 := keep1 hSY c2; have s3 := keep1 hSY c3; have s4 := keep1 hSY c4
        go_simp
        with_reducible rfl
       try simp only [LY]
       refine wpAnyH_take (i := 4) (oi := _) (v := ?_) rfl (by kernel_rfl) (by kernel_rfl) (by kernel_rfl) (fun _ _ _ h => h) (Or.inl ⟨by rfl, ?_⟩) hH ?_
       rotate_left 1
       ·intro Y hSY
        have s1 := keep1 hSY c1; have s2 := keep1 hSY c2; have s3 := keep1 hSY c3; have s4 := keep1 hSY c4
        go_simp
        with_reducible rfl
       try simp only [LY]
       refine wpAnyH_take (i := 5) (oi := _) (v := ?_) rfl (by kernel_rfl) (by kernel_rfl) (by kernel_rfl) (fun _ _ _ h => h) (Or.inl ⟨by rfl, ?_⟩) hH ?_
       rotate_left 1
       ·intro Y hSY
        have s1 := keep1 hSY c1; have s2 := keep1 hSY c2; have s3 := keep1 hSY c3; have s4 := keep1 hSY c4
        go_simp
        with_reducible rfl
       try simp only [LY]
       refine wpAnyH_take (i := 6) (oi := _) (v := ?_) rfl (by kernel_rfl) (by kernel_rfl) (by kernel_rfl) (fun _ _ _ h => h) (Or.inl ⟨by rfl, ?_⟩) hH ?_
       rotate_left 1
       ·intro Y hSY
        have s1 := keep1 hSY c1; have s2 := keep1 hSY c2; have s3 := keep1 hSY c3; have s4 := keep1 hSY c4
        go_simp
        with_reducible rfl
       try simp only [LY]
       refine wpAnyH_take (i := 7) (oi := _) (v := ?_) rfl (by kernel_rfl) (by kernel_rfl) (by kernel_rfl) (fun _ _ _ h => h) (Or.inl ⟨by rfl, ?_⟩) hH ?_
       rotate_left 1
       ·intro Y hSY
        have s1 := keep1 hSY c1; have s2 := keep1 hSY c2; have s3 := keep1 hSY c3; have s4 := keep1 hSY c4
        go_simp
        with_reducible rfl
       try simp only [LY]
       refine wpAnyH_take (i := 8) (oi := _) (v := .agg Xp) rfl (by kernel_rfl) (by kernel_rfl) (by kernel_rfl) (fun _ _ _ h => h) (yieldsIf_run (by rfl) _ _ rfl _ rfl _ (fun Y hY => hlp Y hY)) hH ?_
       try simp only [LY]
       refine wpAnyH_take (i := 9) (oi := _) (v := ?_) rfl (by kernel_rfl) (by kernel_rfl) (by kernel_rfl) (fun _ _ _ h => h) (Or.inl ⟨by rfl, ?_⟩) hH ?_
       rotate_left 1
       ·intro Y hSY
        have s1 := keep1 hSY c1; have s2 := keep1 hSY c2; have s3 := keep1 hSY c3; have s4 := keep1 hSY c4
        go_simp
        with_reducible rfl
       try simp only [LY]
       refine wpAnyH_take (i := 10) (oi := _) (v := ?_) rfl (by kernel_rfl) (by kernel_rfl) (by kernel_rfl) (fun _ _ _ h => h) (Or.inl ⟨by rfl, ?_⟩) hH ?_
       rotate_left 1
       ·intro Y hSY
        have s1 := keep1 hSY c1; have s2 := keep1 hSY c2; have s3 := keep1 hSY c3; have s4 := keep1 hSY c4
        go_simp
        with_reducible rfl
       try simp only [LY]
       refine wpAnyH_take (i := 11) (oi := _) (v := ?_) rfl (by kernel_rfl) (by kernel_rfl) (by kernel_rfl) (fun _ _ _ h => h) (Or.inl ⟨by rfl, ?_⟩) hH ?_
       rotate_left 1
       ·intro Y hSY
        have s1 := keep1 hSY c1; have s2 := keep1 hSY c2; have s3 := keep1 hSY c3; have s4 := keep1 hSY c4
        go_simp
        with_reducible rfl
       try simp only [LY]
       refine wpAnyH_take (i := 12) (oi := _) (v := ?_) rfl (by kernel_rfl) (by kernel_rfl) (by kernel_rfl) (fun _ _ _ h => h) (Or.inl ⟨by rfl, ?_⟩) hH ?_
       rotate_left 1
       ·intro Y hSY
        have s1 := keep1 hSY c1; have s2 := keep1 hSY c2; have s3 := keep1 hSY c3; have s4 := keep1 hSY c4
        go_simp
        with_reducible rfl
       try simp only [LY]
       refine wpAnyH_take (i := 13) (oi := _) (v := ?_) rfl (by kernel_rfl) (by kernel_rfl) (by kernel_rfl) (fun _ _ _ h => h) (Or.inl ⟨by rfl, ?_⟩) hH ?_
       rotate_left 1
       ·intro Y hSY
        have s1 := keep1 hSY c1; have s2 := keep1 hSY c2; have s3 := keep1 hSY c3; have s4 := keep1 hSY c4
        go_simp
        with_reducible rfl
       try simp only [LY]
       refine wpAnyH_take (i := 14) (oi := _) (v := ?_) rfl (by kernel_rfl) (by kernel_rfl) (by kernel_rfl) (fun _ _ _ h => h) (Or.inl ⟨by rfl, ?_⟩) hH ?_
       rotate_left 1
       ·intro Y hSY
        have s1 := keep1 hSY c1; have s2 := keep1 hSY c2; have s3 := keep1 hSY c3; have s4 := keep1 hSY c4
        go_simp
        with_reducible rfl
       try simp only [LY]
       refine wpAnyH_take (i := 15) (oi := _) (v := .agg Xq) rfl (by kernel_rfl) (by kernel_rfl) (by kernel_rfl) (fun _ _ _ h => h) (yieldsIf_run (by rfl) _ _ rfl _ rfl _ (fun Y hY => hlq Y hY)) hH ?_
       try simp only [LY]
       refine wpAnyH_ready (rs := [16]) (by kernel_rfl) (by simp) ?_
       refine AllReadyH.cons rfl (fun K hK => ?_) AllReadyH.nil
       go_simp
       go_at_call 128
       refine (HCALL.out _ HBD.out).mono ?_
       rintro e w1 ⟨rfl, hb1'⟩
       have hb1 := Lib.hid (trans_b hH hb1')
       clear hb1' hH
       go_wp2_with fail
       refine hK.out _ _ hb1.out (fun hH => ?_)
       clear hK K
       try simp only [LY]
       refine wpAnyH_take (i := 17) (oi := _) (v := ?_) rfl (by kernel_rfl) (by kernel_rfl) (by kernel_rfl) (fun _ _ _ h => h) (Or.inl ⟨by rfl, ?_⟩) hH ?_
       rotate_left 1
       ·intro Y hSY
        have s1 := keep1 hSY c1; have s2 := keep1 hSY c2; have s3 := keep1 hSY c3; have s4 := keep1 hSY c4
        go_simp
        with_reducible rfl
       try simp only [LY]
       refine wpAnyH_take (i := 18) (oi := _) (v := ?_) rfl (by kernel_rfl) (by kernel_rfl) (by kernel_rfl) (fun _ _ _ h => h) (Or.inl ⟨by rfl, ?_⟩) hH ?_
       rotate_left 1
       ·intro Y hSY
        have s1 := keep1 hSY c1; have s2 := keep1 hSY c2; have s3 := keep1 hSY c3; have s4 := keep1 hSY c4
        go_simp
        with_reducible rfl
       try simp only [LY]
       refine wpAnyH_take (i := 19) (oi := _) (v := ?_) rfl (by kernel_rfl) (by kernel_rfl) (by kernel_rfl) (fun _ _ _ h => h) (Or.inl ⟨by rfl, ?_⟩) hH ?_
       rotate_left 1
       ·intro Y hSY
        have s1 := keep1 hSY c1; have s2 := keep1 hSY c2; have s3 := keep1 hSY c3; have s4 := keep1 hSY c4
        go_simp
        with_reducible rfl
       try simp only [LY]
       refine wpAnyH_take (i := 20) (oi := _) (v := ?_) rfl (by kernel_rfl) (by kernel_rfl) (by kernel_rfl) (fun _ _ _ h => h) (Or.inl ⟨by rfl, ?_⟩) hH ?_
       rotate_left 1
       ·intro Y hSY
        have s1 := keep1 hSY c1; have s2 := keep1 hSY c2; have s3 := keep1 hSY c3; have s4 := keep1 hSY c4
        go_simp
        with_reducible rfl
       try simp only [LY]
       refine wpAnyH_take (i := 21) (oi := _) (v := ?_) rfl (by kernel_rfl) (by kernel_rfl) (by kernel_rfl) (fun _ _ _ h => h) (Or.inl ⟨by rfl, ?_⟩) hH ?_
       rotate_left 1
       ·intro Y hSY
        have s1 := keep1 hSY c1; have s2 := keep1 hSY c2; have s3 := keep1 hSY c3; have s4 := keep1 hSY c4
        go_simp
        with_reducible rfl
       try simp only [LY]
       refine wpAnyH_take (i := 22) (oi := _) (v := undef) rfl (by kernel_rfl) (by kernel_rfl) (by kernel_rfl) (fun _ _ _ h => h) (Or.inr ⟨by rfl, rfl⟩) hH ?_
       try simp only [LY]
       refine wpAnyH_take (i := 23) (oi := _) (v := undef) rfl (by kernel_rfl) (by kernel_rfl) (by kernel_rfl) (fun _ _ _ h => h) (Or.inr ⟨by rfl, rfl⟩) hH ?_
       try simp only [LY]
       refine wpAnyH_take (i := 24) (oi := _) (v := undef) rfl (by kernel_rfl) (by kernel_rfl) (by kernel_rfl) (fun _ _ _ h => h) (Or.inr ⟨by rfl, rfl⟩) hH ?_
       try simp only [LY]
       refine wpAnyH_take (i := 25) (oi := _) (v := undef) rfl (by kernel_rfl) (by kernel_rfl) (by kernel_rfl) (fun _ _ _ h => h) (Or.inr ⟨by rfl, rfl⟩) hH ?_
       try simp only [LY]
       refine wpAnyH_take (i := 26) (oi := _) (v := undef) rfl (by kernel_rfl) (by kernel_rfl) (by kernel_rfl) (fun _ _ _ h => h) (Or.inr ⟨by rfl, rfl⟩) hH ?_
       try simp only [LY]
       refine wpAnyH_take (i := 27) (oi := _) (v := undef) rfl (by kernel_rfl) (by kernel_rfl) (by kernel_rfl) (fun _ _ _ h => h) (Or.inr ⟨by rfl, rfl⟩) hH ?_
       try simp only [LY]
       refine wpAnyH_take (i := 28) (oi := _) (v := ?_) rfl (by kernel_rfl) (by kernel_rfl) (by kernel_rfl) (fun _ _ _ h => h) (Or.inl ⟨by rfl, ?_⟩) hH ?_
       rotate_left 1
       ·intro Y hSY
        have s1 := keep1 hSY c1; have s2 := keep1 hSY c2; have s3 := keep1 hSY c3; have s4 := keep1 hSY c4
        go_simp
        with_reducible rfl
       try simp only [LY]
       refine wpAnyH_take (i := 29) (oi := _) (v := ?_) rfl (by kernel_rfl) (by kernel_rfl) (by kernel_rfl) (fun _ _ _ h => h) (Or.inl ⟨by rfl, ?_⟩) hH ?_
       rotate_left 1
       ·intro Y hSY
        have s1 := keep1 hSY c1; have s2 := keep1 hSY c2; have s3 := keep1 hSY c3; have s4 := keep1 hSY c4
        go_simp
        with_reducible rfl
       try simp only [LY]
       refine wpAnyH_done (by kernel_rfl) ?_ _
       have c4' := keep1 hb1.out c4
       go_wp2
       go_roundw
       case rel => exact ⟨(b : Int), k + 1 + 1, by go_num, by go_num, by omega, by omega, by omega, by omega, Lib.hid ⟨trans_b HT.out.b hb1.out, HT2.out⟩⟩
       case measure => simp [intOf]; omega
      ·have hfb : decide (f < 0) = false := decide_eq_false hfn
       by_cases hbf : (b : Int) < f
       ·have hbb : decide ((b : Int) < f) = true := decide_eq_true hbf
        have HT2 : Hid (TwiceI c gf R (k + 1) (b : Int)) := Lib.hid (by rw [← HAB.out]; exact twiceI_hit c HT1.out hk2 HZ.out (by rw [HAB.out]; omega) (.inr (by rw [HAB.out]; exact hbf)))
        go_upto_region 14 with fail
        refine wp_region_held_drew (S := fun X => Below wr.heap.size wr X) (by kernel_rfl) HBD.out (fun hH => ?_)
        refine wpAnyH_take (i := 0) (oi := _) (v := ?_) rfl (by kernel_rfl) (by kernel_rfl) (by kernel_rfl) (fun _ _ _ h => h) (Or.inl ⟨by rfl, ?_⟩) hH ?_
        rotate_left 1
        ·intro Y hSY
         have s1 := keep1 hSY c1; have s2 := keep1 hSY c2; have s3 := keep1 hSY c3; have s4 := keep1 hSY c4
         go_simp
         with_reducible rfl
        try simp only [LY]
        refine wpAnyH_take (i := 1) (oi := _) (v := ?_) rfl (by kernel_rfl) (by kernel_rfl) (by kernel_rfl) (fun _ _ _ h => h) (Or.inl ⟨by rfl, ?_⟩) hH ?_
        rotate_left 1
        ·intro Y hSY
         have s1 := keep1 hSY c1; have s2 := keep1 hSY c2; have s3 := keep1 hSY c3; have s4 := keep1 hSY c4
         go_simp
         with_reducible rfl
        try simp only [LY]
        refine wpAnyH_take (i := 2) (oi := _) (v := ?_) rfl (by kernel_rfl) (by kernel_rfl) (by kernel_rfl) (fun _ _ _ h => h) (Or.inl ⟨by rfl, ?_⟩) hH ?_
        rotate_left 1
        ·intro Y hSY
         have s1 := keep1 hSY c1; have s2 := keep1 hSY c2; have s3 := keep1 hSY c3; have s4 := keep1 hSY c4
         go_simp
         with_reducible rfl
        try simp only [LY]
        refine wpAnyH_take (i := 3) (oi := _) (v := ?_) rfl (by kernel_rfl) (by kernel_rfl) (by kernel_rfl) (fun _ _ _ h => h) (Or.inl ⟨by rfl, ?_⟩) hH ?_
        rotate_left 1
        ·intro Y hSY
         have s1 := keep1 hSY c1; have s2 := keep1 hSY c2; have s3 := keep1 hSY c3; have s4 := keep1 hSY c4
         go_simp
         with_reducible rfl
        try simp only [LY]
        refine wpAnyH_take (i := 4) (oi := _) (v := ?_) rfl (by kernel_rfl) (by kernel_rfl) (by kernel_rfl) (fun _ _ _ h => h) (Or.inl ⟨by rfl, ?_⟩) hH ?_
        rotate_left 1
        ·intro Y hSY
         have s1 := keep1 hSY c1; have s2 := keep1 hSY c2; have s3 := keep1 hSY c3; have s4 := keep1 hSY c4
         go_simp
         with_reducible rfl
        try simp only [LY]
        refine wpAnyH_take (i := 5) (oi := _) (v := ?_) rfl (by kernel_rfl) (by kernel_rfl) (by kernel_rfl) (fun _ _ _ h => h) (Or.inl ⟨by rfl, ?_⟩) hH ?_
        rotate_left 1
        ·intro Y hSY
         have s1 := keep1 hSY c1; have s2 := keep1 hSY c2; have s3 := keep1 hSY c3; have s4 := keep1 hSY c4
         go_simp
         with_reducible rfl
        try simp only [LY]
        refine wpAnyH_take (i := 6) (oi := _) (v := ?_) rfl (by kernel_rfl) (by kernel_rfl) (by kernel_rfl) (fun _ _ _ h => h) (Or.inl ⟨by rfl, ?_⟩) hH ?_
        rotate_left 1
        ·intro Y hSY
         have s1 := keep1 hSY c1; have s2 := keep1 hSY c2; have s3 := keep1 hSY c3; have s4 := keep1 hSY c4
         go_simp
         with_reducible rfl
        try simp only [LY]
        refine wpAnyH_take (i := 7) (oi := _) (v := ?_) rfl (by kernel_rfl) (by kernel_rfl) (by kernel_rfl) (fun _ _ _ h => h) (Or.inl ⟨by rfl, ?_⟩) hH ?_
        rotate_left 1
        ·intro Y hSY
         have s1 := keep1 hSY c1; have s2 := keep1 hSY c2; have s3 := keep1 hSY c3; have s4 := keep1 hSY c4
         go_simp
         with_reducible rfl
        try simp only [LY]
        refine wpAnyH_take (i := 8) (oi := _) (v := .agg Xp) rfl (by kernel_rfl) (by kernel_rfl) (by kernel_rfl) (fun _ _ _ h => h) (yieldsIf_run (by rfl) _ _ rfl _ rfl _ (fun Y hY => hlp Y hY)) hH ?_
        try simp only [LY]
        refine wpAnyH_take (i := 9) (oi := _) (v := ?_) rfl (by kernel_rfl) (by kernel_rfl) (by kernel_rfl) (fun _ _ _ h => h) (Or.inl ⟨by rfl, ?_⟩) hH ?_
        rotate_left 1
        ·intro Y hSY
         have s1 := keep1 hSY c1; have s2 := keep1 hSY c2; have s3 := keep1 hSY c3; have s4 := keep1 hSY c4
         go_simp
         with_reducible rfl
        try simp only [LY]
        refine wpAnyH_take (i := 10) (oi := _) (v := ?_) rfl (by kernel_rfl) (by kernel_rfl) (by kernel_rfl) (fun _ _ _ h => h) (Or.inl ⟨by rfl, ?_⟩) hH ?_
        rotate_left 1
        ·intro Y hSY
         have s1 := keep1 hSY c1; have s2 := keep1 hSY c2; have s3 := keep1 hSY c3; have s4 := keep1 hSY c4
         go_simp
         with_reducible rfl
        try simp only [LY]
        refine wpAnyH_take (i := 11) (oi := _) (v := ?_) rfl (by kernel_rfl) (by kernel_rfl) (by kernel_rfl) (fun _ _ _ h => h) (Or.inl ⟨by rfl, ?_⟩) hH ?_
        rotate_left 1
        ·intro Y hSY
         have s1 := keep1 hSY c1; have s2 := keep1 hSY c2; have s3 := keep1 hSY c3; have s4 := keep1 hSY c4
         go_simp
         with_reducible rfl
        try simp only [LY]
        refine wpAnyH_take (i := 12) (oi := _) (v := ?_) rfl (by kernel_rfl) (by kernel_rfl) (by kernel_rfl) (fun _ _ _ h => h) (Or.inl ⟨by rfl, ?_⟩) hH ?_
        rotate_left 1
        ·intro Y hSY
         have s1 := keep1 hSY c1; have s2 := keep1 hSY c2; have s3 := keep1 hSY c3; have s4 := keep1 hSY c4
         go_simp
         with_reducible rfl
        try simp only [LY]
        refine wpAnyH_take (i := 13) (oi := _) (v := ?_) rfl (by kernel_rfl) (by kernel_rfl) (by kernel_rfl) (fun _ _ _ h => h) (Or.inl ⟨by rfl, ?_⟩) hH ?_
        rotate_left 1
        ·intro Y hSY
         have s1 := keep1 hSY c1; have s2 := keep1 hSY c2; have s3 := keep1 hSY c3; have s4 := keep1 hSY c4
         go_simp
         with_reducible rfl
        try simp only [LY]
        refine wpAnyH_take (i := 14) (oi := _) (v := ?_) rfl (by kernel_rfl) (by kernel_rfl) (by kernel_rfl) (fun _ _ _ h => h) (Or.inl ⟨by rfl, ?_⟩) hH ?_
        rotate_left 1
        ·intro Y hSY
         have s1 := keep1 hSY c1; have s2 := keep1 hSY c2; have s3 := keep1 hSY c3; have s4 := keep1 hSY c4
         go_simp
         with_reducible rfl
        try simp only [LY]
        refine wpAnyH_take (i := 15) (oi := _) (v := .agg Xq) rfl (by kernel_rfl) (by kernel_rfl) (by kernel_rfl) (fun _ _ _ h => h) (yieldsIf_run (by rfl) _ _ rfl _ rfl _ (fun Y hY => hlq Y hY)) hH ?_
        try simp only [LY]
        refine wpAnyH_ready (rs := [16]) (by kernel_rfl) (by simp) ?_
        refine AllReadyH.cons rfl (fun K hK => ?_) AllReadyH.nil
        go_simp
        go_at_call 128
        refine (HCALL.out _ HBD.out).mono ?_
        rintro e w1 ⟨rfl, hb1'⟩
        have hb1 := Lib.hid (trans_b hH hb1')
        clear hb1' hH
        go_wp2_with fail
        refine hK.out _ _ hb1.out (fun hH => ?_)
        clear hK K
        try simp only [LY]
        refine wpAnyH_take (i := 17) (oi := _) (v := ?_) rfl (by kernel_rfl) (by kernel_rfl) (by kernel_rfl) (fun _ _ _ h => h) (Or.inl ⟨by rfl, ?_⟩) hH ?_
        rotate_left 1
        ·intro Y hSY
         have s1 := keep1 hSY c1; have s2 := keep1 hSY c2; have s3 := keep1 hSY c3; have s4 := keep1 hSY c4
         go_simp
         with_reducible rfl
        try simp only [LY]
        refine wpAnyH_take (i := 18) (oi := _) (v := ?_) rfl (by kernel_rfl) (by kernel_rfl) (by kernel_rfl) (fun _ _ _ h => h) (Or.inl ⟨by rfl, ?_⟩) hH ?_
        rotate_left 1
        ·intro Y hSY
         have s1 := keep1 hSY c1; have s2 := keep1 hSY c2; have s3 := keep1 hSY c3; have s4 := keep1 hSY c4
         go_simp
         with_reducible rfl
        try simp only [LY]
        refine wpAnyH_take (i := 19) (oi := _) (v := ?_) rfl (by kernel_rfl) (by kernel_rfl) (by kernel_rfl) (fun _ _ _ h => h) (Or.inl ⟨by rfl, ?_⟩) hH ?_
        rotate_left 1
        ·intro Y hSY
         have s1 := keep1 hSY c1; have s2 := keep1 hSY c2; have s3 := keep1 hSY c3; have s4 := keep1 hSY c4
         go_simp
         with_reducible rfl
        try simp only [LY]
        refine wpAnyH_take (i := 20) (oi := _) (v := ?_) rfl (by kernel_rfl) (by kernel_rfl) (by kernel_rfl) (fun _ _ _ h => h) (Or.inl ⟨by rfl, ?_⟩) hH ?_
        rotate_left 1
        ·intro Y hSY
         have s1 := keep1 hSY c1; have s2 := keep1 hSY c2; have s3 := keep1 hSY c3; have s4 := keep1 hSY c4
         go_simp
         with_reducible rfl
        try simp only [LY]
        refine wpAnyH_take (i := 21) (oi := _) (v := ?_) rfl (by kernel_rfl) (by kernel_rfl) (by kernel_rfl) (fun _ _ _ h => h) (Or.inl ⟨by rfl, ?_⟩) hH ?_
        rotate_left 1
        ·intro Y hSY
         have s1 := keep1 hSY c1; have s2 := keep1 hSY c2; have s3 := keep1 hSY c3; have s4 := keep1 hSY c4
         go_simp
         with_reducible rfl
        try simp only [LY]
        refine wpAnyH_take (i := 22) (oi := _) (v := ?_) rfl (by kernel_rfl) (by kernel_rfl) (by kernel_rfl) (fun _ _ _ h => h) (Or.inl ⟨by rfl, ?_⟩) hH ?_
        rotate_left 1
        ·intro Y hSY
         have s1 := keep1 hSY c1; have s2 := keep1 hSY c2; have s3 := keep1 hSY c3; have s4 := keep1 hSY c4
         go_simp
         with_reducible rfl
        try simp only [LY]
        refine wpAnyH_take (i := 23) (oi := _) (v := ?_) rfl (by kernel_rfl) (by kernel_rfl) (by kernel_rfl) (fun _ _ _ h => h) (Or.inl ⟨by rfl, ?_⟩) hH ?_
        rotate_left 1
        ·intro Y hSY
         have s1 := keep1 hSY c1; have s2 := keep1 hSY c2; have s3 := keep1 hSY c3; have s4 := keep1 hSY c4
         go_simp
         with_reducible rfl
        try simp only [LY]
        refine wpAnyH_take (i := 24) (oi := _) (v := ?_) rfl (by kernel_rfl) (by kernel_rfl) (by kernel_rfl) (fun _ _ _ h => h) (Or.inl ⟨by rfl, ?_⟩) hH ?_
        rotate_left 1
        ·intro Y hSY
         have s1 := keep1 hSY c1; have s2 := keep1 hSY c2; have s3 := keep1 hSY c3; have s4 := keep1 hSY c4
         go_simp
         with_reducible rfl
        try simp only [LY]
        refine wpAnyH_take (i := 25) (oi := _) (v := ?_) rfl (by kernel_rfl) (by kernel_rfl) (by kernel_rfl) (fun _ _ _ h => h) (Or.inl ⟨by rfl, ?_⟩) hH ?_
        rotate_left 1
        ·intro Y hSY
         have s1 := keep1 hSY c1; have s2 := keep1 hSY c2; have s3 := keep1 hSY c3; have s4 := keep1 hSY c4
         go_simp
         with_reducible rfl
        try simp only [LY]
        refine wpAnyH_take (i := 26) (oi := _) (v := ?_) rfl (by kernel_rfl) (by kernel_rfl) (by kernel_rfl) (fun _ _ _ h => h) (Or.inl ⟨by rfl, ?_⟩) hH ?_
        rotate_left 1
        ·intro Y hSY
         have s1 := keep1 hSY c1; have s2 := keep1 hSY c2; have s3 := keep1 hSY c3; have s4 := keep1 hSY c4
         go_simp
         with_reducible rfl
        try simp only [LY]
        refine wpAnyH_take (i := 27) (oi := _) (v := ?_) rfl (by kernel_rfl) (by kernel_rfl) (by kernel_rfl) (fun _ _ _ h => h) (Or.inl ⟨by rfl, ?_⟩) hH ?_
        rotate_left 1
        ·intro Y hSY
         have s1 := keep1 hSY c1; have s2 := keep1 hSY c2; have s3 := keep1 hSY c3; have s4 := keep1 hSY c4
         go_simp
         with_reducible rfl
        try simp only [LY]
        refine wpAnyH_take (i := 28) (oi := _) (v := ?_) rfl (by kernel_rfl) (by kernel_rfl) (by kernel_rfl) (fun _ _ _ h => h) (Or.inl ⟨by rfl, ?_⟩) hH ?_
        rotate_left 1
        ·intro Y hSY
         have s1 := keep1 hSY c1; have s2 := keep1 hSY c2; have s3 := keep1 hSY c3; have s4 := keep1 hSY c4
         go_simp
         with_reducible rfl
        try simp only [LY]
        refine wpAnyH_take (i := 29) (oi := _) (v := ?_) rfl (by kernel_rfl) (by kernel_rfl) (by kernel_rfl) (fun _ _ _ h => h) (Or.inl ⟨by rfl, ?_⟩) hH ?_
        rotate_left 1
        ·intro Y hSY
         have s1 := keep1 hSY c1; have s2 := keep1 hSY c2; have s3 := keep1 hSY c3; have s4 := keep1 hSY c4
         go_simp
         with_reducible rfl
        try simp only [LY]
        refine wpAnyH_done (by kernel_rfl) ?_ _
        have c4' := keep1 hb1.out c4
        go_wp2
        go_roundw
        case rel => exact ⟨(b : Int), k + 1 + 1, by go_num, by go_num, by omega, by omega, by omega, by omega, Lib.hid ⟨trans_b HT.out.b hb1.out, HT2.out⟩⟩
        case measure => simp [intOf]; omega
       ·have hbb : decide ((b : Int) < f) = false := decide_eq_false hbf
        have HT2 : Hid (TwiceI c gf R (k + 1) f) := Lib.hid (twiceI_miss c HT1.out fun _ _ => ⟨by omega, by rw [HAB.out]; omega⟩)
        go_upto_region 14 with fail
        refine wp_region_held_drew (S := fun X => Below wr.heap.size wr X) (by kernel_rfl) HBD.out (fun hH => ?_)
        refine wpAnyH_take (i := 0) (oi := _) (v := ?_) rfl (by kernel_rfl) (by kernel_rfl) (by kernel_rfl) (fun _ _ _ h => h) (Or.inl ⟨by rfl, ?_⟩) hH ?_
        rotate_left 1
        ·intro Y hSY
         have s1 := keep1 hSY c1; have s2 := keep1 hSY c2; have s3 := keep1 hSY c3; have s4 := keep1 hSY c4
         go_simp
         with_reducible rfl
        try simp only [LY]
        refine wpAnyH_take (i := 1) (oi := _) (v := ?_) rfl (by kernel_rfl) (by kernel_rfl) (by kernel_rfl) (fun _ _ _ h => h) (Or.inl ⟨by rfl, ?_⟩) hH ?_
        rotate_left 1
        ·intro Y hSY
         have s1 := keep1 hSY c1; have s2 := keep1 hSY c2; have s3 := keep1 hSY c3; have s4 := keep1 hSY c4
         go_simp
         with_reducible rfl
        try simp only [LY]
        refine wpAnyH_take (i := 2) (oi := _) (v := ?_) rfl (by kernel_rfl) (by kernel_rfl) (by kernel_rfl) (fun _ _ _ h => h) (Or.inl ⟨by rfl, ?_⟩) hH ?_
        rotate_left 1
        ·intro Y hSY
         have s1 := keep1 hSY c1; have s2 := keep1 hSY c2; have s3 := keep1 hSY c3; have s4 := keep1 hSY c4
         go_simp
         with_reducible rfl
        try simp only [LY]
        refine wpAnyH_take (i := 3) (oi := _) (v := ?_) rfl (by kernel_rfl) (by kernel_rfl) (by kernel_rfl) (fun _ _ _ h => h) (Or.inl ⟨by rfl, ?_⟩) hH ?_
        rotate_left 1
        ·intro Y hSY
         have s1 := keep1 hSY c1; have s2 := keep1 hSY c2; have s3 := keep1 hSY c3; have s4 := keep1 hSY c4
         go_simp
         with_reducible rfl
        try simp only [LY]
        refine wpAnyH_take (i := 4) (oi := _) (v := ?_) rfl (by kernel_rfl) (by kernel_rfl) (by kernel_rfl) (fun _ _ _ h => h) (Or.inl ⟨by rfl, ?_⟩) hH ?_
        rotate_left 1
        ·intro Y hSY
         have s1 := keep1 hSY c1; have s2 := keep1 hSY c2; have s3 := keep1 hSY c3; have s4 := keep1 hSY c4
         go_simp
         with_reducible rfl
        try simp only [LY]
        refine wpAnyH_take (i := 5) (oi := _) (v := ?_) rfl (by kernel_rfl) (by kernel_rfl) (by kernel_rfl) (fun _ _ _ h => h) (Or.inl ⟨by rfl, ?_⟩) hH ?_
        rotate_left 1
        ·intro Y hSY
         have s1 := keep1 hSY c1; have s2 := keep1 hSY c2; have s3 := keep1 hSY c3; have s4 := keep1 hSY c4
         go_simp
         with_reducible rfl
        try simp only [LY]
        refine wpAnyH_take (i := 6) (oi := _) (v := ?_) rfl (by kernel_rfl) (by kernel_rfl) (by kernel_rfl) (fun _ _ _ h => h) (Or.inl ⟨by rfl, ?_⟩) hH ?_
        rotate_left 1
        ·intro Y hSY
         have s1 := keep1 hSY c1; have s2 := keep1 hSY c2; have s3 := keep1 hSY c3; have s4 := keep1 hSY c4
         go_simp
         with_reducible rfl
        try simp only [LY]
        refine wpAnyH_take (i := 7) (oi := _) (v := ?_) rfl (by kernel_rfl) (by kernel_rfl) (by kernel_rfl) (fun _ _ _ h => h) (Or.inl ⟨by rfl, ?_⟩) hH ?_
        rotate_left 1
        ·intro Y hSY
         have s1 := keep1 hSY c1; have s2 := keep1 hSY c2; have s3 := keep1 hSY c3; have s4 := keep1 hSY c4
         go_simp
         with_reducible rfl
        try simp only [LY]
        refine wpAnyH_take (i := 8) (oi := _) (v := .agg Xp) rfl (by kernel_rfl) (by kernel_rfl) (by kernel_rfl) (fun _ _ _ h => h) (yieldsIf_run (by rfl) _ _ rfl _ rfl _ (fun Y hY => hlp Y hY)) hH ?_
        try simp only [LY]
        refine wpAnyH_take (i := 9) (oi := _) (v := ?_) rfl (by kernel_rfl) (by kernel_rfl) (by kernel_rfl) (fun _ _ _ h => h) (Or.inl ⟨by rfl, ?_⟩) hH ?_
        rotate_left 1
        ·intro Y hSY
         have s1 := keep1 hSY c1; have s2 := keep1 hSY c2; have s3 := keep1 hSY c3; have s4 := keep1 hSY c4
         go_simp
         with_reducible rfl
        try simp only [LY]
        refine wpAnyH_take (i := 10) (oi := _) (v := ?_) rfl (by kernel_rfl) (by kernel_rfl) (by kernel_rfl) (fun _ _ _ h => h) (Or.inl ⟨by rfl, ?_⟩) hH ?_
        rotate_left 1
        ·intro Y hSY
         have s1 := keep1 hSY c1; have s2 := keep1 hSY c2; have s3 := keep1 hSY c3; have s4 := keep1 hSY c4
         go_simp
         with_reducible rfl
        try simp only [LY]
        refine wpAnyH_take (i := 11) (oi := _) (v := ?_) rfl (by kernel_rfl) (by kernel_rfl) (by kernel_rfl) (fun _ _ _ h => h) (Or.inl ⟨by rfl, ?_⟩) hH ?_
        rotate_left 1
        ·intro Y hSY
         have s1 := keep1 hSY c1; have s2 := keep1 hSY c2; have s3 := keep1 hSY c3; have s4 := keep1 hSY c4
         go_simp
         with_reducible rfl
        try simp only [LY]
        refine wpAnyH_take (i := 12) (oi := _) (v := ?_) rfl (by kernel_rfl) (by kernel_rfl) (by kernel_rfl) (fun _ _ _ h => h) (Or.inl ⟨by rfl, ?_⟩) hH ?_
        rotate_left 1
        ·intro Y hSY
         have s1 := keep1 hSY c1; have s2 := keep1 hSY c2; have s3 := keep1 hSY c3; have s4 := keep1 hSY c4
         go_simp
         with_reducible rfl
        try simp only [LY]
        refine wpAnyH_take (i := 13) (oi := _) (v := ?_) rfl (by kernel_rfl) (by kernel_rfl) (by kernel_rfl) (fun _ _ _ h => h) (Or.inl ⟨by rfl, ?_⟩) hH ?_
        rotate_left 1
        ·intro Y hSY
         have s1 := keep1 hSY c1; have s2 := keep1 hSY c2; have s3 := keep1 hSY c3; have s4 := keep1 hSY c4
         go_simp
         with_reducible rfl
        try simp only [LY]
        refine wpAnyH_take (i := 14) (oi := _) (v := ?_) rfl (by kernel_rfl) (by kernel_rfl) (by kernel_rfl) (fun _ _ _ h => h) (Or.inl ⟨by rfl, ?_⟩) hH ?_
        rotate_left 1
        ·intro Y hSY
         have s1 := keep1 hSY c1; have s2 := keep1 hSY c2; have s3 := keep1 hSY c3; have s4 := keep1 hSY c4
         go_simp
         with_reducible rfl
        try simp only [LY]
        refine wpAnyH_take (i := 15) (oi := _) (v := .agg Xq) rfl (by kernel_rfl) (by kernel_rfl) (by kernel_rfl) (fun _ _ _ h => h) (yieldsIf_run (by rfl) _ _ rfl _ rfl _ (fun Y hY => hlq Y hY)) hH ?_
        try simp only [LY]
        refine wpAnyH_ready (rs := [16]) (by kernel_rfl) (by simp) ?_
        refine AllReadyH.cons rfl (fun K hK => ?_) AllReadyH.nil
        go_simp
        go_at_call 128
        refine (HCALL.out _ HBD.out).mono ?_
        rintro e w1 ⟨rfl, hb1'⟩
        have hb1 := Lib.hid (trans_b hH hb1')
        clear hb1' hH
        go_wp2_with fail
        refine hK.out _ _ hb1.out (fun hH => ?_)
        clear hK K
        try simp only [LY]
        refine wpAnyH_take (i := 17) (oi := _) (v := ?_) rfl (by kernel_rfl) (by kernel_rfl) (by kernel_rfl) (fun _ _ _ h => h) (Or.inl ⟨by rfl, ?_⟩) hH ?_
        rotate_left 1
        ·intro Y hSY
         have s1 := keep1 hSY c1; have s2 := keep1 hSY c2; have s3 := keep1 hSY c3; have s4 := keep1 hSY c4
         go_simp
         with_reducible rfl
        try simp only [LY]
        refine wpAnyH_take (i := 18) (oi := _) (v := ?_) rfl (by kernel_rfl) (by kernel_rfl) (by kernel_rfl) (fun _ _ _ h => h) (Or.inl ⟨by rfl, ?_⟩) hH ?_
        rotate_left 1
        ·intro Y hSY
         have s1 := keep1 hSY c1; have s2 := keep1 hSY c2; have s3 := keep1 hSY c3; have s4 := keep1 hSY c4
         go_simp
         with_reducible rfl
        try simp only [LY]
        refine wpAnyH_take (i := 19) (oi := _) (v := ?_) rfl (by kernel_rfl) (by kernel_rfl) (by kernel_rfl) (fun _ _ _ h => h) (Or.inl ⟨by rfl, ?_⟩) hH ?_
        rotate_left 1
        ·intro Y hSY
         have s1 := keep1 hSY c1; have s2 := keep1 hSY c2; have s3 := keep1 hSY c3; have s4 := keep1 hSY c4
         go_simp
         with_reducible rfl
        try simp only [LY]
        refine wpAnyH_take (i := 20) (oi := _) (v := ?_) rfl (by kernel_rfl) (by kernel_rfl) (by kernel_rfl) (fun _ _ _ h => h) (Or.inl ⟨by rfl, ?_⟩) hH ?_
        rotate_left 1
        ·intro Y hSY
         have s1 := keep1 hSY c1; have s2 := keep1 hSY c2; have s3 := keep1 hSY c3; have s4 := keep1 hSY c4
         go_simp
         with_reducible rfl
        try simp only [LY]
        refine wpAnyH_take (i := 21) (oi := _) (v := ?_) rfl (by kernel_rfl) (by kernel_rfl) (by kernel_rfl) (fun _ _ _ h => h) (Or.inl ⟨by rfl, ?_⟩) hH ?_
        rotate_left 1
        ·intro Y hSY
         have s1 := keep1 hSY c1; have s2 := keep1 hSY c2; have s3 := keep1 hSY c3; have s4 := keep1 hSY c4
         go_simp
         with_reducible rfl
        try simp only [LY]
        refine wpAnyH_take (i := 22) (oi := _) (v := ?_) rfl (by kernel_rfl) (by kernel_rfl) (by kernel_rfl) (fun _ _ _ h => h) (Or.inl ⟨by rfl, ?_⟩) hH ?_
        rotate_left 1
        ·intro Y hSY
         have s1 := keep1 hSY c1; have s2 := keep1 hSY c2; have s3 := keep1 hSY c3; have s4 := keep1 hSY c4
         go_simp
         with_reducible rfl
        try simp only [LY]
        refine wpAnyH_take (i := 23) (oi := _) (v := ?_) rfl (by kernel_rfl) (by kernel_rfl) (by kernel_rfl) (fun _ _ _ h => h) (Or.inl ⟨by rfl, ?_⟩) hH ?_
        rotate_left 1
        ·intro Y hSY
         have s1 := keep1 hSY c1; have s2 := keep1 hSY c2; have s3 := keep1 hSY c3; have s4 := keep1 hSY c4
         go_simp
         with_reducible rfl
        try simp only [LY]
        refine wpAnyH_take (i := 24) (oi := _) (v := ?_) rfl (by kernel_rfl) (by kernel_rfl) (by kernel_rfl) (fun _ _ _ h => h) (Or.inl ⟨by rfl, ?_⟩) hH ?_
        rotate_left 1
        ·intro Y hSY
         have s1 := keep1 hSY c1; have s2 := keep1 hSY c2; have s3 := keep1 hSY c3; have s4 := keep1 hSY c4
         go_simp
         with_reducible rfl
        try simp only [LY]
        refine wpAnyH_take (i := 25) (oi := _) (v := ?_) rfl (by kernel_rfl) (by kernel_rfl) (by kernel_rfl) (fun _ _ _ h => h) (Or.inl ⟨by rfl, ?_⟩) hH ?_
        rotate_left 1
        ·intro Y hSY
         have s1 := keep1 hSY c1; have s2 := keep1 hSY c2; have s3 := keep1 hSY c3; have s4 := keep1 hSY c4
         go_simp
         with_reducible rfl
        try simp only [LY]
        refine wpAnyH_take (i := 26) (oi := _) (v := ?_) rfl (by kernel_rfl) (by kernel_rfl) (by kernel_rfl) (fun _ _ _ h => h) (Or.inl ⟨by rfl, ?_⟩) hH ?_
        rotate_left 1
        ·intro Y hSY
         have s1 := keep1 hSY c1; have s2 := keep1 hSY c2; have s3 := keep1 hSY c3; have s4 := keep1 hSY c4
         go_simp
         with_reducible rfl
        try simp only [LY]
        refine wpAnyH_take (i := 27) (oi := _) (v := ?_) rfl (by kernel_rfl) (by kernel_rfl) (by kernel_rfl) (fun _ _ _ h => h) (Or.inl ⟨by rfl, ?_⟩) hH ?_
        rotate_left 1
        ·intro Y hSY
         have s1 := keep1 hSY c1; have s2 := keep1 hSY c2; have s3 := keep1 hSY c3; have s4 := keep1 hSY c4
         go_simp
         with_reducible rfl
        try simp only [LY]
        refine wpAnyH_take (i := 28) (oi := _) (v := ?_) rfl (by kernel_rfl) (by kernel_rfl) (by kernel_rfl) (fun _ _ _ h => h) (Or.inl ⟨by rfl, ?_⟩) hH ?_
        rotate_left 1
        ·intro Y hSY
         have s1 := keep1 hSY c1; have s2 := keep1 hSY c2; have s3 := keep1 hSY c3; have s4 := keep1 hSY c4
         go_simp
         with_reducible rfl
        try simp only [LY]
        refine wpAnyH_take (i := 29) (oi := _) (v := ?_) rfl (by kernel_rfl) (by kernel_rfl) (by kernel_rfl) (fun _ _ _ h => h) (Or.inl ⟨by rfl, ?_⟩) hH ?_
        rotate_left 1
        ·intro Y hSY
         have s1 := keep1 hSY c1; have s2 := keep1 hSY c2; have s3 := keep1 hSY c3; have s4 := keep1 hSY c4
         go_simp
         with_reducible rfl
        try simp only [LY]
        refine wpAnyH_done (by kernel_rfl) ?_ _
        go_wp2
        go_roundw
        case rel => exact ⟨f, k + 1 + 1, by go_num, by go_num, by omega, by omega, by omega, by omega, Lib.hid ⟨trans_b HT.out.b hb1.out, HT2.out⟩⟩
        case measure => simp [intOf]; omega
     ·have hzb : decide (z = 0) = false := decide_eq_false hzz
      have hzb2 : (z == (0 : Int)) = false := beq_eq_false_iff_ne.2 hzz
      have HT2 : Hid (TwiceI c gf R (k + 1) f) := Lib.hid (twiceI_miss c HT1.out fun _ h0 => absurd (HZ.out.symm.trans h0) hzz)
      go_upto_region 14 with fail
      refine wp_region_held_drew (S := fun X => Below wr.heap.size wr X) (by kernel_rfl) HBD.out (fun hH => ?_)
      refine wpAnyH_take (i := 0) (oi := _) (v := ?_) rfl (by kernel_rfl) (by kernel_rfl) (by kernel_rfl) (fun _ _ _ h => h) (Or.inl ⟨by rfl, ?_⟩) hH ?_
      rotate_left 1
      ·intro Y hSY
       have s1 := keep1 hSY c1; have s2 := keep1 hSY c2; have s3 := keep1 hSY c3; have s4 := keep1 hSY c4
       go_simp
       with_reducible rfl
      try simp only [LY]
      refine wpAnyH_take (i := 1) (oi := _) (v := ?_) rfl (by kernel_rfl) (by kernel_rfl) (by kernel_rfl) (fun _ _ _ h => h) (Or.inl ⟨by rfl, ?_⟩) hH ?_
      rotate_left 1
      ·intro Y hSY
       have s1 := keep1 hSY c1; have s2 := keep1 hSY c2; have s3 := keep1 hSY c3; have s4 := keep1 hSY c4
       go_simp
       with_reducible rfl
      try simp only [LY]
      refine wpAnyH_take (i := 2) (oi := _) (v := ?_) rfl (by kernel_rfl) (by kernel_rfl) (by kernel_rfl) (fun _ _ _ h => h) (Or.inl ⟨by rfl, ?_⟩) hH ?_
      rotate_left 1
      ·intro Y hSY
       have s1 := keep1 hSY c1; have s2 := keep1 hSY c2; have s3 := keep1 hSY c3; have s4 := keep1 hSY c4
       go_simp
       with_reducible rfl
      try simp only [LY]
      refine wpAnyH_take (i := 3) (oi := _) (v := ?_) rfl (by kernel_rfl) (by kernel_rfl) (by kernel_rfl) (fun _ _ _ h => h) (Or.inl ⟨by rfl, ?_⟩) hH ?_
      rotate_left 1
      ·intro Y hSY
       have s1 := keep1 hSY c1; have s2 := keep1 hSY c2; have s3 := keep1 hSY c3; have s4 := keep1 hSY c4
       go_simp
       with_reducible rfl
      try simp only [LY]
      refine wpAnyH_take (i := 4) (oi := _) (v := ?_) rfl (by kernel_rfl) (by kernel_rfl) (by kernel_rfl) (fun _ _ _ h => h) (Or.inl ⟨by rfl, ?_⟩) hH ?_
      rotate_left 1
      ·intro Y hSY
       have s1 := keep1 hSY c1; have s2 := keep1 hSY c2; have s3 := keep1 hSY c3; have s4 := keep1 hSY c4
       go_simp
       with_reducible rfl
      try simp only [LY]
      refine wpAnyH_take (i := 5) (oi := _) (v := ?_) rfl (by kernel_rfl) (by kernel_rfl) (by kernel_rfl) (fun _ _ _ h => h) (Or.inl ⟨by rfl, ?_⟩) hH ?_
      rotate_left 1
      ·intro Y hSY
       have s1 := keep1 hSY c1; have s2 := keep1 hSY c2; have s3 := keep1 hSY c3; have s4 := keep1 hSY c4
       go_simp
       with_reducible rfl
      try simp only [LY]
      refine wpAnyH_take (i := 6) (oi := _) (v := ?_) rfl (by kernel_rfl) (by kernel_rfl) (by kernel_rfl) (fun _ _ _ h => h) (Or.inl ⟨by rfl, ?_⟩) hH ?_
      rotate_left 1
      ·intro Y hSY
       have s1 := keep1 hSY c1; have s2 := keep1 hSY c2; have s3 := keep1 hSY c3; have s4 := keep1 hSY c4
       go_simp
       with_reducible rfl
      try simp only [LY]
      refine wpAnyH_take (i := 7) (oi := _) (v := ?_) rfl (by kernel_rfl) (by kernel_rfl) (by kernel_rfl) (fun _ _ _ h => h) (Or.inl ⟨by rfl, ?_⟩) hH ?_
      rotate_left 1
      ·intro Y hSY
       have s1 := keep1 hSY c1; have s2 := keep1 hSY c2; have s3 := keep1 hSY c3; have s4 := keep1 hSY c4
       go_simp
       with_reducible rfl
      try simp only [LY]
      refine wpAnyH_take (i := 8) (oi := _) (v := .agg Xp) rfl (by kernel_rfl) (by kernel_rfl) (by kernel_rfl) (fun _ _ _ h => h) (yieldsIf_run (by rfl) _ _ rfl _ rfl _ (fun Y hY => hlp Y hY)) hH ?_
      try simp only [LY]
      refine wpAnyH_take (i := 9) (oi := _) (v := ?_) rfl (by kernel_rfl) (by kernel_rfl) (by kernel_rfl) (fun _ _ _ h => h) (Or.inl ⟨by rfl, ?_⟩) hH ?_
      rotate_left 1
      ·intro Y hSY
       have s1 := keep1 hSY c1; have s2 := keep1 hSY c2; have s3 := keep1 hSY c3; have s4 := keep1 hSY c4
       go_simp
       with_reducible rfl
      try simp only [LY]
      refine wpAnyH_take (i := 10) (oi := _) (v := ?_) rfl (by kernel_rfl) (by kernel_rfl) (by kernel_rfl) (fun _ _ _ h => h) (Or.inl ⟨by rfl, ?_⟩) hH ?_
      rotate_left 1
      ·intro Y hSY
       have s1 := keep1 hSY c1; have s2 := keep1 hSY c2; have s3 := keep1 hSY c3; have s4 := keep1 hSY c4
       go_simp
       with_reducible rfl
      try simp only [LY]
      refine wpAnyH_take (i := 11) (oi := _) (v := ?_) rfl (by kernel_rfl) (by kernel_rfl) (by kernel_rfl) (fun _ _ _ h => h) (Or.inl ⟨by rfl, ?_⟩) hH ?_
      rotate_left 1
      ·intro Y hSY
       have s1 := keep1 hSY c1; have s2 := keep1 hSY c2; have s3 := keep1 hSY c3; have s4 := keep1 hSY c4
       go_simp
       with_reducible rfl
      try simp only [LY]
      refine wpAnyH_take (i := 12) (oi := _) (v := ?_) rfl (by kernel_rfl) (by kernel_rfl) (by kernel_rfl) (fun _ _ _ h => h) (Or.inl ⟨by rfl, ?_⟩) hH ?_
      rotate_left 1
      ·intro Y hSY
       have s1 := keep1 hSY c1; have s2 := keep1 hSY c2; have s3 := keep1 hSY c3; have s4 := keep1 hSY c4
       go_simp
       with_reducible rfl
      try simp only [LY]
      refine wpAnyH_take (i := 13) (oi := _) (v := ?_) rfl (by kernel_rfl) (by kernel_rfl) (by kernel_rfl) (fun _ _ _ h => h) (Or.inl ⟨by rfl, ?_⟩) hH ?_
      rotate_left 1
      ·intro Y hSY
       have s1 := keep1 hSY c1; have s2 := keep1 hSY c2; have s3 := keep1 hSY c3; have s4 := keep1 hSY c4
       go_simp
       with_reducible rfl
      try simp only [LY]
      refine wpAnyH_take (i := 14) (oi := _) (v := ?_) rfl (by kernel_rfl) (by kernel_rfl) (by kernel_rfl) (fun _ _ _ h => h) (Or.inl ⟨by rfl, ?_⟩) hH ?_
      rotate_left 1
      ·intro Y hSY
       have s1 := keep1 hSY c1; have s2 := keep1 hSY c2; have s3 := keep1 hSY c3; have s4 := keep1 hSY c4
       go_simp
       with_reducible rfl
      try simp only [LY]
      refine wpAnyH_take (i := 15) (oi := _) (v := .agg Xq) rfl (by kernel_rfl) (by kernel_rfl) (by kernel_rfl) (fun _ _ _ h => h) (yieldsIf_run (by rfl) _ _ rfl _ rfl _ (fun Y hY => hlq Y hY)) hH ?_
      try simp only [LY]
      refine wpAnyH_ready (rs := [16]) (by kernel_rfl) (by simp) ?_
      refine AllReadyH.cons rfl (fun K hK => ?_) AllReadyH.nil
      go_simp
      go_at_call 128
      refine (HCALL.out _ HBD.out).mono ?_
      rintro e w1 ⟨rfl, hb1'⟩
      have hb1 := Lib.hid (trans_b hH hb1')
      clear hb1' hH
      go_wp2_with fail
      refine hK.out _ _ hb1.out (fun hH => ?_)
      clear hK K
      try simp only [LY]
      refine wpAnyH_take (i := 17) (oi := _) (v := ?_) rfl (by kernel_rfl) (by kernel_rfl) (by kernel_rfl) (fun _ _ _ h => h) (Or.inl ⟨by rfl, ?_⟩) hH ?_
      rotate_left 1
      ·intro Y hSY
       have s1 := keep1 hSY c1; have s2 := keep1 hSY c2; have s3 := keep1 hSY c3; have s4 := keep1 hSY c4
       go_simp
       with_reducible rfl
      try simp only [LY]
      refine wpAnyH_take (i := 18) (oi := _) (v := ?_) rfl (by kernel_rfl) (by kernel_rfl) (by kernel_rfl) (fun _ _ _ h => h) (Or.inl ⟨by rfl, ?_⟩) hH ?_
      rotate_left 1
      ·intro Y hSY
       have s1 := keep1 hSY c1; have s2 := keep1 hSY c2; have s3 := keep1 hSY c3; have s4 := keep1 hSY c4
       go_simp
       with_reducible rfl
      try simp only [LY]
      refine wpAnyH_take (i := 19) (oi := _) (v := undef) rfl (by kernel_rfl) (by kernel_rfl) (by kernel_rfl) (fun _ _ _ h => h) (Or.inr ⟨by rfl, rfl⟩) hH ?_
      try simp only [LY]
      refine wpAnyH_take (i := 20) (oi := _) (v := undef) rfl (by kernel_rfl) (by kernel_rfl) (by kernel_rfl) (fun _ _ _ h => h) (Or.inr ⟨by rfl, rfl⟩) hH ?_
      try simp only [LY]
      refine wpAnyH_take (i := 21) (oi := _) (v := undef) rfl (by kernel_rfl) (by kernel_rfl) (by kernel_rfl) (fun _ _ _ h => h) (Or.inr ⟨by rfl, rfl⟩) hH ?_
      try simp only [LY]
      refine wpAnyH_take (i := 22) (oi := _) (v := undef) rfl (by kernel_rfl) (by kernel_rfl) (by kernel_rfl) (fun _ _ _ h => h) (Or.inr ⟨by rfl, rfl⟩) hH ?_
      try simp only [LY]
      refine wpAnyH_take (i := 23) (oi := _) (v := undef) rfl (by kernel_rfl) (by kernel_rfl) (by kernel_rfl) (fun _ _ _ h => h) (Or.inr ⟨by rfl, rfl⟩) hH ?_
      try simp only [LY]
      refine wpAnyH_take (i := 24) (oi := _) (v := undef) rfl (by kernel_rfl) (by kernel_rfl) (by kernel_rfl) (fun _ _ _ h => h) (Or.inr ⟨by rfl, rfl⟩) hH ?_
      try simp only [LY]
      refine wpAnyH_take (i := 25) (oi := _) (v := undef) rfl (by kernel_rfl) (by kernel_rfl) (by kernel_rfl) (fun _ _ _ h => h) (Or.inr ⟨by rfl, rfl⟩) hH ?_
      try simp only [LY]
      refine wpAnyH_take (i := 26) (oi := _) (v := undef) rfl (by kernel_rfl) (by kernel_rfl) (by kernel_rfl) (fun _ _ _ h => h) (Or.inr ⟨by rfl, rfl⟩) hH ?_
      try simp only [LY]
      refine wpAnyH_take (i := 27) (oi := _) (v := undef) rfl (by kernel_rfl) (by kernel_rfl) (by kernel_rfl) (fun _ _ _ h => h) (Or.inr ⟨by rfl, rfl⟩) hH ?_
      try simp only [LY]
      refine wpAnyH_take (i := 28) (oi := _) (v := undef) rfl (by kernel_rfl) (by kernel_rfl) (by kernel_rfl) (fun _ _ _ h => h) (Or.inr ⟨by rfl, rfl⟩) hH ?_
      try simp only [LY]
      refine wpAnyH_take (i := 29) (oi := _) (v := ?_) rfl (by kernel_rfl) (by kernel_rfl) (by kernel_rfl) (fun _ _ _ h => h) (Or.inl ⟨by rfl, ?_⟩) hH ?_
      rotate_left 1
      ·intro Y hSY
       have s1 := keep1 hSY c1; have s2 := keep1 hSY c2; have s3 := keep1 hSY c3; have s4 := keep1 hSY c4
       go_simp
       with_reducible rfl
      try simp only [LY]
      refine wpAnyH_done (by kernel_rfl) ?_ _
      go_wp2
      go_roundw
      case rel => exact ⟨f, k + 1 + 1, by go_num, by go_num, by omega, by omega, by omega, by omega, Lib.hid ⟨trans_b HT.out.b hb1.out, HT2.out⟩⟩
      case measure => simp [intOf]; omega
    ·have HE : Hid (TwiceAt c gf i f) := Lib.hid (twice_end HO.out gf i R HR1.out.2.2.2.1 HR1.out.2.2.2.2 (j - 1) (by have := HLR.out; omega) f HT.out.t)
     have hBf : Below w.heap.size w wr := trans_b hpb.out (trans_b HB1.out HT.out.b)
     have HBF := Lib.hid hBf
     clear hBf
     go_wp2
     go_ret
     exact ⟨f, rfl, HE, HBF.out⟩
end Go.Proofs.YtcpkjmpbpmeclaaGreatDoor
namespace Go.Proofs.YtcpkjmpbpmeclaaGreatDoor
open Go.RowKit
set_option maxRecDepth 100000
set_option linter.unusedVariables false
set_option linter.unusedSimpArgs false
set_option linter.unnecessarySimpa false

set_option maxHeartbeats 4000000 in
theorem twice_none (A : Option Addr) (cap : Nat) (w : World) :
  Calls Tryz.prog 129 #[.slice A 0 cap, .func (.func 128) #[] #[]] w fun e w' => e = .returned (.int .i64 (-1)) ∧ Below w.heap.size w w' := by
 obtain ⟨i0, z0, hi, hz0, hz1, hz2, hzs⟩ := infoi3
 have hmk : ∀ W : World, (Instr.makeSlice 93 (.int .i64 0) (.int .i64 0)).run Tryz.prog W = .ok (.slice (some ⟨W.heap.size, 0, none⟩) 0 0) (W.alloc (.cells #[] 3)) := fun W => by
  have h := run_make (P := Tryz.prog) W 93 3 i0 z0 Tryz.underlying93 hi hz0 .i64 .i64 0 0 (by omega) (by omega) (by omega) (by omega)
  rw [hz1] at h
  have e : madeCells z0.cells ((0 : Int).toNat * 1) = #[] := Array.eq_empty_of_size_eq_zero (by rw [size_madeCells]; simp)
  rw [e] at h
  exact h
 have qf : ∀ w : World, (binOp .eql 124 (.func (.func 128) #[] #[]) .nilFunc).run Tryz.prog w = .ok (.bool false) w := fun w => by kernel_rfl
 have HB : Hid (Below w.heap.size w (((w.alloc (.cells #[.slice A 0 cap] 119)).alloc (.cells #[.func (.func 128) #[] #[]] 124)).alloc (.cells #[] 3))) := Lib.hid ((((Below.refl _ w).alloc (Nat.le_refl _) _).alloc (by simp) _).alloc (by simp; omega) _)
 clear hi hz0 hz1 hz2 hzs
 go_enter Tryz.func129, Tryz.ntmps129
 go_wp2
 refine wp_loop_rounds 1 ?_
 rw [rounds_succ]
 go_wp2_with (go_at_call 189; go_must (refine (sorti_none _ _ _ _ _).mono ?_); go_must (rintro e w1 ⟨⟨A', c', rfl⟩, hb1⟩; have HB1 := Lib.hid (trans_b HB.out hb1); clear hb1))
 refine wp_loop_rounds 1 ?_
 rw [rounds_succ]
 go_wp2
 go_ret
 exact ⟨rfl, HB1.out⟩
/-- Pairs by their keys. -/
def pairC (x y : ELp) : Int := cmpV x.key y.key
theorem pairC_ord : OrdC pairC :=
 ⟨fun x y => by have := (cmpV_ord x.key y.key).anti; unfold pairC; omega, fun x y z h1 h2 => ((cmpV_tri x.key y.key z.key).1 h1 h2).1⟩
theorem pairC_stab (L : List ELp) : Stab pairC pairC L := fun _ _ _ _ _ => Iff.rfl
set_option maxHeartbeats 4000000 in
theorem map3W (X0 X1 Y0 Y1 : Array Value) (z : Int) (w : World) (hl0 : ∀ W, W.heap[w.heap.size]? = some (.cells X0 123 (0, 0)) → Sem.run Tryz.prog (loadVar 31 ⟨w.heap.size, 0, none⟩) W = .ok (.agg Y0) W)
  (hl1 : ∀ W, W.heap[w.heap.size + 1]? = some (.cells X1 123 (0, 0)) → Sem.run Tryz.prog (loadVar 31 ⟨w.heap.size + 1, 0, none⟩) W = .ok (.agg Y1) W)
  (HC : Hid (∀ W, Below w.heap.size w W → Calls Tryz.prog 23 #[.agg Y0, .agg Y1] W fun e w' => e = .returned (.int .i64 z) ∧ Below W.heap.size W w')) :
  Calls Tryz.prog 128 #[.agg X0, .agg X1] w fun e w' => e = .returned (.int .i64 z) ∧ Below w.heap.size w w' := by
 have HB : Hid (Below w.heap.size w ((w.alloc (.cells X0 123)).alloc (.cells X1 123))) := Lib.hid (((Below.refl _ w).alloc (Nat.le_refl _) _).alloc (by simp) _)
 have h0 := hl0 ((w.alloc (.cells X0 123)).alloc (.cells X1 123)) (by rw [Below.heap_alloc _ _ _ (by simp)]; exact heap_alloc_new _ _)
 have h1 := hl1 ((w.alloc (.cells X0 123)).alloc (.cells X1 123)) (by have h := heap_alloc_new (w.alloc (.cells X0 123)) (.cells X1 123); rwa [World.size_alloc] at h)
 have H0 := Lib.hid h0
 have H1 := Lib.hid h1
 clear hl0 hl1 h0 h1
 go_enter Tryz.func128, Tryz.ntmps128
 go_upto_region 1 with fail
 generalize ((w.alloc (.cells X0 123)).alloc (.cells X1 123)) = W1 at *
 apply wp_region_lit
 refine wpList_plain rfl fun K hK => ?_
 go_simp
 refine hK _ _ ?_
 clear hK K
 try simp only [LY]
 refine wpList_plain rfl fun K hK => ?_
 go_simp
 refine hK _ _ ?_
 clear hK K
 try simp only [LY]
 refine wpList_loadrun rfl _ _ rfl _ rfl _ H0.out ?_
 try simp only [LY]
 refine wpList_plain rfl fun K hK => ?_
 go_simp
 refine hK _ _ ?_
 clear hK K
 try simp only [LY]
 refine wpList_plain rfl fun K hK => ?_
 go_simp
 refine hK _ _ ?_
 clear hK K
 try simp only [LY]
 refine wpList_loadrun rfl _ _ rfl _ rfl _ H1.out ?_
 try simp only [LY]
 go_wp2_with (go_at_call 23; go_must (refine (HC.out _ HB.out).mono ?_); go_must (rintro e w1 ⟨rfl, hb1⟩; have HB1 := Lib.hid (trans_b HB.out hb1); clear hb1))
 go_ret
 exact ⟨rfl, HB1.out⟩
theorem map3_any (w0 : World) (L : List ELp) (hS : Shapes w0) (hz : ∀ x ∈ L, x.key.sz ≤ 1000000000 ∧ In w0 x.key) : Cmpp w0 pairC L := by
 intro x hx y hy W hW
 have hld : ∀ (p : ELp) (b : Nat) (W' : World), W'.heap[b]? = some (.cells (encp p).toArray 123 (0, 0)) → Sem.run Tryz.prog (loadVar 31 ⟨b, 0, none⟩) W' = .ok p.key.agg W' := fun p b W' h =>
  run_loadVar_mid W' b 0 31 p.key.cells _ (fun j v hv => by
   rw [Nat.zero_add, cell_of_row _ _ _ _ _ _ h]
   have hj : j < 8 := (List.getElem?_eq_some_iff.1 hv).1
   rw [List.getElem?_toArray]
   unfold encp
   rw [List.getElem?_append_left (by exact hj)]
   exact hv) Tryz.underlying31 rfl size_value
 exact map3W (encp x).toArray (encp y).toArray _ _ _ W (fun W' h => hld x _ W' h) (fun W' h => hld y _ W' h) (Lib.hid fun W2 hW2 => cmpV_any _ _ _ W2 (Nat.le_refl _) (hz x hx).1 (hz y hy).1 (hS.below (trans_b hW hW2)) ((hz x hx).2.below (trans_b hW hW2)) ((hz y hy).2.below (trans_b hW hW2)))
end Go.Proofs.YtcpkjmpbpmeclaaGreatDoor
