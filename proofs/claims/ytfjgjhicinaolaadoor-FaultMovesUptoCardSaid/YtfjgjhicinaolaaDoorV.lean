/- The document's Fault of any Node. -/
import Derived.Test.YtfjgjhicinaolaaDoorT
namespace Go.Proofs.YtfjgjhicinaolaaDoor
open Go.RowKit Go.Extern.Stop Go.Stop Go.Extern
set_option maxRecDepth 100000
set_option linter.unusedVariables false
set_option linter.unusedSimpArgs false
set_option linter.unnecessarySimpa false

mutual
/-- The Node that is the Fault. -/
def ND.fnd : ND → Option ND
  | .mk k c n s A cap l =>
    if (decide (k < 1) || decide (7 < k) || (k == 1 && (decide (c < 1) || decide (11 < c)))) = true then none
    else if k = 3 ∨ k = 6 then some (.mk k c n s A cap l)
    else if k = 4 then ND.fndH l
    else if k = 5 then ND.fndL l
    else none
def ND.fndH : List ND → Option ND
  | [] => none
  | N :: _ => N.fnd
def ND.fndL : List ND → Option ND
  | [] => none
  | N :: l => match N.fnd with
    | some x => some x
    | none => ND.fndL l
end
theorem fndL_none_take (l : List ND) (c : Nat) (h : c < l.length) (h1 : ND.fndL (l.take c) = none) : ND.fndL (l.take (c + 1)) = (l[c]).fnd := by
  induction l generalizing c with
  | nil => simp at h
  | cons e l ih =>
    cases c with
    | zero => simp [ND.fndL]; cases e.fnd <;> rfl
    | succ c =>
      simp only [List.take_succ_cons, ND.fndL] at h1 ⊢
      cases he : e.fnd with
      | some x => rw [he] at h1; simp at h1
      | none =>
        rw [he] at h1
        simpa using ih c (by simpa using h) (by simpa using h1)
theorem fndL_some (l : List ND) (c : Nat) (h : c < l.length) (h1 : ND.fndL (l.take c) = none) (x : ND) (h2 : (l[c]).fnd = some x) : ND.fndL l = some x := by
  induction l generalizing c with
  | nil => simp at h
  | cons e l ih =>
    cases c with
    | zero => simp [ND.fndL] at h2 ⊢; rw [h2]
    | succ c =>
      simp only [List.take_succ_cons, ND.fndL] at h1
      cases he : e.fnd with
      | some x => rw [he] at h1; simp at h1
      | none =>
        rw [he] at h1
        simp only [ND.fndL, he]
        exact ih c (by simpa using h) (by simpa using h1) (by simpa using h2)

def zN : Array Value := #[.int .i64 0, .int .i64 0, .int .i64 0, .string ⟨#[]⟩, .slice none 0 0]
def fndC : Option ND → Array Value
  | some N => #[.int .i64 N.k, .int .i64 N.c, .int .i64 N.n, .string N.s, N.kids]
  | none => #[.int .i64 0, .int .i64 0, .int .i64 0, .string ⟨#[]⟩, .slice none 0 0]
theorem size24 : (Tryd.prog.info? 24).map (·.size) = some 5 := by kernel_rfl
theorem fndC_size (x : Option ND) : (fndC x).size = 5 := by cases x <;> rfl
theorem fndC_one (x : Option ND) : (fndC x).all (·.oneCell') = true := by
  cases x <;> exact all_oneCell_toArray (fun v hv => by simp only [List.mem_cons, List.not_mem_nil, or_false] at hv; rcases hv with rfl | rfl | rfl | rfl | rfl <;> rfl)
/-- Five cells of one cell each. -/
structure Fit5 (cs : Array Value) : Prop where
  z : (Tryd.prog.info? 24).map (·.size) = some cs.size
  a : cs.all (·.oneCell') = true
theorem fit_fnd (x : Option ND) : Fit5 (fndC x) := ⟨by rw [fndC_size]; exact size24, fndC_one x⟩
theorem Fit5.size {cs : Array Value} (h : Fit5 cs) : cs.size = 5 := by have := h.z; rw [size24] at this; exact (Option.some.inj this).symm
theorem there_blk {w : World} {b : Nat} {cs : Array Value} {t : TypeId} (h : w.heap[b]? = some (.cells cs t (0, 0))) (n : Nat) (hn : n = cs.size) : w.there b 0 n := by
  intro j hj
  refine ⟨?_, Lib.frozen_of_heap h _⟩
  rw [Lib.cell_of_heap h, Array.getElem?_eq_getElem (show 0 + j < cs.size by omega)]
  rfl
theorem below_setCells {B : Nat} {w0 : World} : ∀ (vs : List Value) (g o : Nat) (w : World), Below B w0 w → B ≤ g → Below B w0 (w.setCells g o vs)
  | [], _, _, _, h, _ => h
  | v :: r, g, o, w, h, hg => by
    rw [World.setCells]
    exact below_setCells r g (o + 1) _ (h.setCell (p := ⟨g, o, none⟩) hg v) hg
theorem load5 (w : World) (g : Nat) (cs : Array Value) (h : w.there g 0 cs.size) (hf : Fit5 cs) : (loadVar 24 ⟨g, 0, none⟩).run Tryd.prog (w.setCells g 0 cs.toList) = .ok (.agg cs) (w.setCells g 0 cs.toList) := by
  have := run_loadVar_mid (P := Tryd.prog) (w.setCells g 0 cs.toList) g 0 24 cs.toList _ (World.rangeAt_setCells_same _ _ _ _ (by rw [Array.length_toList]; exact h)) Tryd.underlying24 rfl (by rw [Array.length_toList]; exact hf.z)
  rwa [Array.toArray_toList] at this

/-- What the document's search leaves. -/
def FndPost (w : World) (x : Option ND) (e : Ending) (w' : World) : Prop := e = .returned (.tuple #[.agg (fndC x), .bool x.isSome]) ∧ Below w.heap.size w w'
theorem FndPost.mk {w w' : World} {x : Option ND} {cs : Array Value} {b : Bool} (h1 : fndC x = cs) (h2 : x.isSome = b) (hb : Below w.heap.size w w') : FndPost w x (.returned (.tuple #[.agg cs, .bool b])) w' := by subst h1 h2; exact ⟨rfl, hb⟩

set_option maxHeartbeats 4000000 in
theorem fnd_ref (n : Nat) : ∀ (N : ND) (w : World), N.sz ≤ n → In w N → Calls Tryd.prog 34 #[N.agg] w (FndPost w N.fnd) := by
  induction n with
  | zero => intro N w hN; have := N.sz_pos; omega
  | succ n ih =>
    intro N w hN hI
    have HIH := Lib.hid ih
    clear ih
    have his := fun w => isN_any N w
    have HIS := Lib.hid his
    obtain ⟨q1, q2, q3, q4⟩ := hI.parts
    rw [ND.sz_l] at hN
    have HSZ : Hid (∀ x, x ∈ N.l → x.sz ≤ n) := Lib.hid fun x hx => by have := ND.szL_mem hx; omega
    have HIN : Hid (∀ x, x ∈ N.l → In w x) := Lib.hid fun x hx => q4.mem hx
    have hcode : N.fnd = (if N.isN = true then none else if N.k = 3 ∨ N.k = 6 then some N else if N.k = 4 then ND.fndH N.l else if N.k = 5 then ND.fndL N.l else none) := by cases N; rfl
    rw [hcode]
    have HBX := Lib.hid (box_cells N w)
    have hb0 : Below w.heap.size w (w.alloc (.cells #[.int .i64 N.k, .int .i64 N.c, .int .i64 N.n, .string N.s, N.kids] 24)) := (Below.refl _ _).alloc (Nat.le_refl _) _
    have hsz0 : (w.alloc (.cells #[.int .i64 N.k, .int .i64 N.c, .int .i64 N.n, .string N.s, N.kids] 24)).heap.size = w.heap.size + 1 := by simp
    have HROW := Lib.hid q3
    have HSELF : Hid (fndC (some N) = #[.int .i64 N.k, .int .i64 N.c, .int .i64 N.n, .string N.s, .slice N.A N.l.length N.cap]) := Lib.hid rfl
    unfold ND.agg
    unfold ND.kids at HBX hb0 hsz0 ⊢
    generalize hl : N.l = l at *
    have hq : l.length ≤ 9223372036854775807 := by omega
    obtain ⟨m, hm⟩ : ∃ m, l.length = m := ⟨_, rfl⟩
    rw [hm] at hq HBX hb0 hsz0 HSELF ⊢
    have HM := Lib.hid hm
    have HIS2 : Hid (∀ W : World, Calls Tryd.prog 29 #[.agg #[.int .i64 N.k, .int .i64 N.c, .int .i64 N.n, .string N.s, .slice N.A m N.cap]] W fun e w' => e = .returned (.bool N.isN) ∧ Below W.heap.size W w') := Lib.hid fun W => by
      have := HIS.out W
      unfold ND.agg ND.kids at this
      rwa [hl, hm] at this
    clear hI q1 q2 q3 q4 hN his HIS hcode hl hm
    generalize N.isN = isn at *
    generalize N.k = k at *
    generalize N.c = c at *
    generalize N.n = nn at *
    generalize N.s = s at *
    generalize N.A = A at *
    generalize N.cap = cap at *
    cases isn with
    | true =>
      go_enter Tryd.func34, Tryd.ntmps34
      go_upto_region 1 with fail
      show Code.wp _ _ _ _ ((w.alloc (.cells #[.int .i64 k, .int .i64 c, .int .i64 nn, .string s, .slice A m cap] 24)).alloc (.cells #[.int .i64 0, .int .i64 0, .int .i64 0, .string ⟨#[]⟩, .slice none 0 0] 24))
      have hbz : Below (w.alloc (.cells #[.int .i64 k, .int .i64 c, .int .i64 nn, .string s, .slice A m cap] 24)).heap.size (w.alloc (.cells #[.int .i64 k, .int .i64 c, .int .i64 nn, .string s, .slice A m cap] 24)) ((w.alloc (.cells #[.int .i64 k, .int .i64 c, .int .i64 nn, .string s, .slice A m cap] 24)).alloc (.cells #[.int .i64 0, .int .i64 0, .int .i64 0, .string ⟨#[]⟩, .slice none 0 0] 24)) := (Below.refl _ _).alloc (Nat.le_refl _) _
      have hblk : ((w.alloc (.cells #[.int .i64 k, .int .i64 c, .int .i64 nn, .string s, .slice A m cap] 24)).alloc (.cells #[.int .i64 0, .int .i64 0, .int .i64 0, .string ⟨#[]⟩, .slice none 0 0] 24)).heap[w.heap.size + 1]? = some (.cells #[.int .i64 0, .int .i64 0, .int .i64 0, .string ⟨#[]⟩, .slice none 0 0] 24 (0, 0)) := by rw [← hsz0]; exact Array.getElem?_push_size
      have HBX2 : Hid (∀ W, Below ((w.alloc (.cells #[.int .i64 k, .int .i64 c, .int .i64 nn, .string s, .slice A m cap] 24)).alloc (.cells #[.int .i64 0, .int .i64 0, .int .i64 0, .string ⟨#[]⟩, .slice none 0 0] 24)).heap.size ((w.alloc (.cells #[.int .i64 k, .int .i64 c, .int .i64 nn, .string s, .slice A m cap] 24)).alloc (.cells #[.int .i64 0, .int .i64 0, .int .i64 0, .string ⟨#[]⟩, .slice none 0 0] 24)) W → _) := Lib.hid fun W h => HBX.out W (trans_b hbz h)
      have hbb := trans_b hb0 hbz
      clear hbz
      generalize ((w.alloc (.cells #[.int .i64 k, .int .i64 c, .int .i64 nn, .string s, .slice A m cap] 24)).alloc (.cells #[.int .i64 0, .int .i64 0, .int .i64 0, .string ⟨#[]⟩, .slice none 0 0] 24)) = w0 at HBX2 hblk hbb ⊢
      obtain ⟨c0, c1, c2, c3, c4⟩ := HBX2.out w0 (Below.refl _ _)
      have h1 := HIS2.out w0
      have HB2 : Hid (∀ W, Below w0.heap.size w0 W → Below w.heap.size w W) := Lib.hid fun W h => trans_b hbb h
      have HTH : Hid (∀ (W : World) (cs : Array Value), Below w0.heap.size w0 W → Fit5 cs → W.there (w.heap.size + 1) 0 cs.size) := Lib.hid fun W cs h hf => there_blk ((h.block _ (Array.getElem?_eq_some_iff.1 hblk).1).trans hblk) _ hf.size
      have HFZ := Lib.hid (fit_fnd none)
      clear hb0 HIS2 hbb hblk HBX hsz0
      go_upto_region 2 with (go_at_call 29; refine h1.mono ?_; rintro e w1 ⟨rfl, hb1⟩)
      have HB3 := Lib.hid hb1
      clear hb1 h1 c0 c1 c2 c3 c4
      have HT := HTH.out w1 #[.int .i64 0, .int .i64 0, .int .i64 0, .string ⟨#[]⟩, .slice none 0 0] HB3.out HFZ.out
      have HT2 := Lib.hid HT
      clear HT
      go_wp2_with (refine wpList_store_mid rfl 24 (.tmp 2) (.tmp 9) rfl (w.heap.size + 1) 0 #[.int .i64 0, .int .i64 0, .int .i64 0, .string ⟨#[]⟩, .slice none 0 0] rfl rfl HT2.out HFZ.out.z HFZ.out.a ?_)
      have hLd := load5 w1 (w.heap.size + 1) #[.int .i64 0, .int .i64 0, .int .i64 0, .string ⟨#[]⟩, .slice none 0 0] HT2.out HFZ.out
      refine bodyPost_ret (v := .tuple #[.agg #[.int .i64 0, .int .i64 0, .int .i64 0, .string ⟨#[]⟩, .slice none 0 0], .bool false]) ?_ rfl (FndPost.mk rfl rfl (below_setCells _ _ _ _ (HB2.out _ HB3.out) (by omega)))
      simp [results, Tryd.results34, hLd, asAddr, Act.put]
    | false =>
      rw [if_neg (by decide)]
      by_cases k36 : k = 3 ∨ k = 6
      · rw [if_pos k36]
        have HFS : Hid (Fit5 #[.int .i64 k, .int .i64 c, .int .i64 nn, .string s, .slice A m cap]) := Lib.hid (by have := fit_fnd (some N); rwa [HSELF.out] at this)
        rcases k36 with rfl | rfl
        ·
          go_enter Tryd.func34, Tryd.ntmps34
          go_upto_region 1 with fail
          show Code.wp _ _ _ _ ((w.alloc (.cells #[.int .i64 3, .int .i64 c, .int .i64 nn, .string s, .slice A m cap] 24)).alloc (.cells #[.int .i64 0, .int .i64 0, .int .i64 0, .string ⟨#[]⟩, .slice none 0 0] 24))
          have hbz : Below (w.alloc (.cells #[.int .i64 3, .int .i64 c, .int .i64 nn, .string s, .slice A m cap] 24)).heap.size (w.alloc (.cells #[.int .i64 3, .int .i64 c, .int .i64 nn, .string s, .slice A m cap] 24)) ((w.alloc (.cells #[.int .i64 3, .int .i64 c, .int .i64 nn, .string s, .slice A m cap] 24)).alloc (.cells #[.int .i64 0, .int .i64 0, .int .i64 0, .string ⟨#[]⟩, .slice none 0 0] 24)) := (Below.refl _ _).alloc (Nat.le_refl _) _
          have hblk : ((w.alloc (.cells #[.int .i64 3, .int .i64 c, .int .i64 nn, .string s, .slice A m cap] 24)).alloc (.cells #[.int .i64 0, .int .i64 0, .int .i64 0, .string ⟨#[]⟩, .slice none 0 0] 24)).heap[w.heap.size + 1]? = some (.cells #[.int .i64 0, .int .i64 0, .int .i64 0, .string ⟨#[]⟩, .slice none 0 0] 24 (0, 0)) := by rw [← hsz0]; exact Array.getElem?_push_size
          have HBX2 : Hid (∀ W, Below ((w.alloc (.cells #[.int .i64 3, .int .i64 c, .int .i64 nn, .string s, .slice A m cap] 24)).alloc (.cells #[.int .i64 0, .int .i64 0, .int .i64 0, .string ⟨#[]⟩, .slice none 0 0] 24)).heap.size ((w.alloc (.cells #[.int .i64 3, .int .i64 c, .int .i64 nn, .string s, .slice A m cap] 24)).alloc (.cells #[.int .i64 0, .int .i64 0, .int .i64 0, .string ⟨#[]⟩, .slice none 0 0] 24)) W → _) := Lib.hid fun W h => HBX.out W (trans_b hbz h)
          have hbb := trans_b hb0 hbz
          clear hbz
          generalize ((w.alloc (.cells #[.int .i64 3, .int .i64 c, .int .i64 nn, .string s, .slice A m cap] 24)).alloc (.cells #[.int .i64 0, .int .i64 0, .int .i64 0, .string ⟨#[]⟩, .slice none 0 0] 24)) = w0 at HBX2 hblk hbb ⊢
          obtain ⟨c0, c1, c2, c3, c4⟩ := HBX2.out w0 (Below.refl _ _)
          have h1 := HIS2.out w0
          have HB2 : Hid (∀ W, Below w0.heap.size w0 W → Below w.heap.size w W) := Lib.hid fun W h => trans_b hbb h
          have HTH : Hid (∀ (W : World) (cs : Array Value), Below w0.heap.size w0 W → Fit5 cs → W.there (w.heap.size + 1) 0 cs.size) := Lib.hid fun W cs h hf => there_blk ((h.block _ (Array.getElem?_eq_some_iff.1 hblk).1).trans hblk) _ hf.size
          have HFZ := Lib.hid (fit_fnd none)
          clear hb0 HIS2 hbb hblk HBX hsz0
          go_upto_region 3 with (go_at_call 29; refine h1.mono ?_; rintro e w1 ⟨rfl, hb1⟩)
          clear c0 c1 c2 c3 c4 h1
          obtain ⟨c0, c1, c2, c3, c4⟩ := HBX2.out w1 hb1
          have HB3 := Lib.hid hb1
          clear hb1
          have HT := HTH.out w1 #[.int .i64 3, .int .i64 c, .int .i64 nn, .string s, .slice A m cap] HB3.out HFS.out
          have HT2 := Lib.hid HT
          clear HT
          go_wp2_with (with_reducible refine wpList_store_mid rfl 24 (.tmp 2) (.tmp 15) rfl (w.heap.size + 1) 0 #[.int .i64 3, .int .i64 c, .int .i64 nn, .string s, .slice A m cap] rfl rfl HT2.out HFS.out.z HFS.out.a ?_)
          have hLd := load5 w1 (w.heap.size + 1) #[.int .i64 3, .int .i64 c, .int .i64 nn, .string s, .slice A m cap] HT2.out HFS.out
          refine bodyPost_ret (v := .tuple #[.agg #[.int .i64 3, .int .i64 c, .int .i64 nn, .string s, .slice A m cap], .bool true]) ?_ rfl (FndPost.mk HSELF.out rfl (below_setCells _ _ _ _ (HB2.out _ HB3.out) (by omega)))
          simp [results, Tryd.results34, hLd, asAddr, Act.put]
        ·
          go_enter Tryd.func34, Tryd.ntmps34
          go_upto_region 1 with fail
          show Code.wp _ _ _ _ ((w.alloc (.cells #[.int .i64 6, .int .i64 c, .int .i64 nn, .string s, .slice A m cap] 24)).alloc (.cells #[.int .i64 0, .int .i64 0, .int .i64 0, .string ⟨#[]⟩, .slice none 0 0] 24))
          have hbz : Below (w.alloc (.cells #[.int .i64 6, .int .i64 c, .int .i64 nn, .string s, .slice A m cap] 24)).heap.size (w.alloc (.cells #[.int .i64 6, .int .i64 c, .int .i64 nn, .string s, .slice A m cap] 24)) ((w.alloc (.cells #[.int .i64 6, .int .i64 c, .int .i64 nn, .string s, .slice A m cap] 24)).alloc (.cells #[.int .i64 0, .int .i64 0, .int .i64 0, .string ⟨#[]⟩, .slice none 0 0] 24)) := (Below.refl _ _).alloc (Nat.le_refl _) _
          have hblk : ((w.alloc (.cells #[.int .i64 6, .int .i64 c, .int .i64 nn, .string s, .slice A m cap] 24)).alloc (.cells #[.int .i64 0, .int .i64 0, .int .i64 0, .string ⟨#[]⟩, .slice none 0 0] 24)).heap[w.heap.size + 1]? = some (.cells #[.int .i64 0, .int .i64 0, .int .i64 0, .string ⟨#[]⟩, .slice none 0 0] 24 (0, 0)) := by rw [← hsz0]; exact Array.getElem?_push_size
          have HBX2 : Hid (∀ W, Below ((w.alloc (.cells #[.int .i64 6, .int .i64 c, .int .i64 nn, .string s, .slice A m cap] 24)).alloc (.cells #[.int .i64 0, .int .i64 0, .int .i64 0, .string ⟨#[]⟩, .slice none 0 0] 24)).heap.size ((w.alloc (.cells #[.int .i64 6, .int .i64 c, .int .i64 nn, .string s, .slice A m cap] 24)).alloc (.cells #[.int .i64 0, .int .i64 0, .int .i64 0, .string ⟨#[]⟩, .slice none 0 0] 24)) W → _) := Lib.hid fun W h => HBX.out W (trans_b hbz h)
          have hbb := trans_b hb0 hbz
          clear hbz
          generalize ((w.alloc (.cells #[.int .i64 6, .int .i64 c, .int .i64 nn, .string s, .slice A m cap] 24)).alloc (.cells #[.int .i64 0, .int .i64 0, .int .i64 0, .string ⟨#[]⟩, .slice none 0 0] 24)) = w0 at HBX2 hblk hbb ⊢
          obtain ⟨c0, c1, c2, c3, c4⟩ := HBX2.out w0 (Below.refl _ _)
          have h1 := HIS2.out w0
          have HB2 : Hid (∀ W, Below w0.heap.size w0 W → Below w.heap.size w W) := Lib.hid fun W h => trans_b hbb h
          have HTH : Hid (∀ (W : World) (cs : Array Value), Below w0.heap.size w0 W → Fit5 cs → W.there (w.heap.size + 1) 0 cs.size) := Lib.hid fun W cs h hf => there_blk ((h.block _ (Array.getElem?_eq_some_iff.1 hblk).1).trans hblk) _ hf.size
          have HFZ := Lib.hid (fit_fnd none)
          clear hb0 HIS2 hbb hblk HBX hsz0
          go_upto_region 3 with (go_at_call 29; refine h1.mono ?_; rintro e w1 ⟨rfl, hb1⟩)
          clear c0 c1 c2 c3 c4 h1
          obtain ⟨c0, c1, c2, c3, c4⟩ := HBX2.out w1 hb1
          have HB3 := Lib.hid hb1
          clear hb1
          have HT := HTH.out w1 #[.int .i64 6, .int .i64 c, .int .i64 nn, .string s, .slice A m cap] HB3.out HFS.out
          have HT2 := Lib.hid HT
          clear HT
          go_wp2_with (with_reducible refine wpList_store_mid rfl 24 (.tmp 2) (.tmp 15) rfl (w.heap.size + 1) 0 #[.int .i64 6, .int .i64 c, .int .i64 nn, .string s, .slice A m cap] rfl rfl HT2.out HFS.out.z HFS.out.a ?_)
          have hLd := load5 w1 (w.heap.size + 1) #[.int .i64 6, .int .i64 c, .int .i64 nn, .string s, .slice A m cap] HT2.out HFS.out
          refine bodyPost_ret (v := .tuple #[.agg #[.int .i64 6, .int .i64 c, .int .i64 nn, .string s, .slice A m cap], .bool true]) ?_ rfl (FndPost.mk HSELF.out rfl (below_setCells _ _ _ _ (HB2.out _ HB3.out) (by omega)))
          simp [results, Tryd.results34, hLd, asAddr, Act.put]
      rw [if_neg k36]
      have t3 : (k == 3) = false := by simp; omega
      have t6 : (k == 6) = false := by simp; omega
      clear k36 HSELF
      clear N
      by_cases k4 : k = 4
      · subst k4
        rw [if_pos rfl]
        cases l with
        | nil =>
          have e : m = 0 := HM.out.symm
          subst e
          simp only [ND.fndH]
          go_enter Tryd.func34, Tryd.ntmps34
          go_upto_region 1 with fail
          show Code.wp _ _ _ _ ((w.alloc (.cells #[.int .i64 4, .int .i64 c, .int .i64 nn, .string s, .slice A 0 cap] 24)).alloc (.cells #[.int .i64 0, .int .i64 0, .int .i64 0, .string ⟨#[]⟩, .slice none 0 0] 24))
          have hbz : Below (w.alloc (.cells #[.int .i64 4, .int .i64 c, .int .i64 nn, .string s, .slice A 0 cap] 24)).heap.size (w.alloc (.cells #[.int .i64 4, .int .i64 c, .int .i64 nn, .string s, .slice A 0 cap] 24)) ((w.alloc (.cells #[.int .i64 4, .int .i64 c, .int .i64 nn, .string s, .slice A 0 cap] 24)).alloc (.cells #[.int .i64 0, .int .i64 0, .int .i64 0, .string ⟨#[]⟩, .slice none 0 0] 24)) := (Below.refl _ _).alloc (Nat.le_refl _) _
          have hblk : ((w.alloc (.cells #[.int .i64 4, .int .i64 c, .int .i64 nn, .string s, .slice A 0 cap] 24)).alloc (.cells #[.int .i64 0, .int .i64 0, .int .i64 0, .string ⟨#[]⟩, .slice none 0 0] 24)).heap[w.heap.size + 1]? = some (.cells #[.int .i64 0, .int .i64 0, .int .i64 0, .string ⟨#[]⟩, .slice none 0 0] 24 (0, 0)) := by rw [← hsz0]; exact Array.getElem?_push_size
          have HBX2 : Hid (∀ W, Below ((w.alloc (.cells #[.int .i64 4, .int .i64 c, .int .i64 nn, .string s, .slice A 0 cap] 24)).alloc (.cells #[.int .i64 0, .int .i64 0, .int .i64 0, .string ⟨#[]⟩, .slice none 0 0] 24)).heap.size ((w.alloc (.cells #[.int .i64 4, .int .i64 c, .int .i64 nn, .string s, .slice A 0 cap] 24)).alloc (.cells #[.int .i64 0, .int .i64 0, .int .i64 0, .string ⟨#[]⟩, .slice none 0 0] 24)) W → _) := Lib.hid fun W h => HBX.out W (trans_b hbz h)
          have hbb := trans_b hb0 hbz
          clear hbz
          generalize ((w.alloc (.cells #[.int .i64 4, .int .i64 c, .int .i64 nn, .string s, .slice A 0 cap] 24)).alloc (.cells #[.int .i64 0, .int .i64 0, .int .i64 0, .string ⟨#[]⟩, .slice none 0 0] 24)) = w0 at HBX2 hblk hbb ⊢
          obtain ⟨c0, c1, c2, c3, c4⟩ := HBX2.out w0 (Below.refl _ _)
          have h1 := HIS2.out w0
          have HB2 : Hid (∀ W, Below w0.heap.size w0 W → Below w.heap.size w W) := Lib.hid fun W h => trans_b hbb h
          have HTH : Hid (∀ (W : World) (cs : Array Value), Below w0.heap.size w0 W → Fit5 cs → W.there (w.heap.size + 1) 0 cs.size) := Lib.hid fun W cs h hf => there_blk ((h.block _ (Array.getElem?_eq_some_iff.1 hblk).1).trans hblk) _ hf.size
          have HFZ := Lib.hid (fit_fnd none)
          clear hb0 HIS2 hbb hblk HBX hsz0
          go_upto_region 3 with (go_at_call 29; refine h1.mono ?_; rintro e w1 ⟨rfl, hb1⟩)
          clear c0 c1 c2 c3 c4 h1
          obtain ⟨c0, c1, c2, c3, c4⟩ := HBX2.out w1 hb1
          have HB3 := Lib.hid hb1
          clear hb1
          have HT := HTH.out w1 #[.int .i64 0, .int .i64 0, .int .i64 0, .string ⟨#[]⟩, .slice none 0 0] HB3.out HFZ.out
          have HT2 := Lib.hid HT
          clear HT
          go_wp2_with (refine wpList_store_mid rfl 24 (.tmp 2) (.tmp 49) rfl (w.heap.size + 1) 0 #[.int .i64 0, .int .i64 0, .int .i64 0, .string ⟨#[]⟩, .slice none 0 0] rfl rfl HT2.out HFZ.out.z HFZ.out.a ?_)
          have hLd := load5 w1 (w.heap.size + 1) #[.int .i64 0, .int .i64 0, .int .i64 0, .string ⟨#[]⟩, .slice none 0 0] HT2.out HFZ.out
          refine bodyPost_ret (v := .tuple #[.agg #[.int .i64 0, .int .i64 0, .int .i64 0, .string ⟨#[]⟩, .slice none 0 0], .bool false]) ?_ rfl (FndPost.mk rfl rfl (below_setCells _ _ _ _ (HB2.out _ HB3.out) (by omega)))
          simp [results, Tryd.results34, hLd, asAddr, Act.put]
        | cons x l =>
          obtain ⟨m1, rfl⟩ : ∃ m1, m = m1 + 1 := ⟨m - 1, by have := HM.out; simp at this; omega⟩
          obtain ⟨b, off, rfl, hc⟩ : ∃ b off, A = some ⟨b, off, none⟩ ∧ ∀ j u, x.cells[j]? = some u → w.cell? ⟨b, off + j, none⟩ = some u := by
            rcases HROW.out with h | ⟨b, off, e, h⟩
            · cases h
            · exact ⟨b, off, e, fun j u hu => by have := h 0 (by simp) j u hu; simpa using this⟩
          have HK : Hid (∀ W, Below w.heap.size w W → W.cell? ⟨b, off, none⟩ = some (.int .i64 x.k) ∧ W.cell? ⟨b, off + 1, none⟩ = some (.int .i64 x.c) ∧ W.cell? ⟨b, off + 2, none⟩ = some (.int .i64 x.n) ∧ W.cell? ⟨b, off + 3, none⟩ = some (.string x.s) ∧ W.cell? ⟨b, off + 4, none⟩ = some x.kids) := Lib.hid fun W hb =>
            ⟨keep1 hb (hc 0 _ rfl), keep1 hb (hc 1 _ rfl), keep1 hb (hc 2 _ rfl), keep1 hb (hc 3 _ rfl), keep1 hb (hc 4 _ rfl)⟩
          have HC : Hid (∀ W, Below w.heap.size w W → Calls Tryd.prog 34 #[.agg #[.int .i64 x.k, .int .i64 x.c, .int .i64 x.n, .string x.s, x.kids]] W fun e w' => e = .returned (.tuple #[.agg (fndC x.fnd), .bool x.fnd.isSome]) ∧ Below W.heap.size W w') := Lib.hid fun W hb => HIH.out x W (HSZ.out x (by simp)) ((HIN.out x (by simp)).below hb)
          simp only [ND.fndH]
          have HFX := Lib.hid (fit_fnd x.fnd)
          clear hc HIH HSZ HIN HROW HM
          generalize hx : x.fnd = xf at HC HFX ⊢
          obtain ⟨xs5, hx5⟩ : ∃ xs5, fndC xf = xs5 := ⟨_, rfl⟩
          obtain ⟨xb, hxb⟩ : ∃ xb, xf.isSome = xb := ⟨_, rfl⟩
          rw [hx5] at HFX
          rw [hx5, hxb] at HC
          have HX5 := Lib.hid hx5
          have HXB := Lib.hid hxb
          clear hx hx5 hxb
          generalize x.k = xk at HK HC
          generalize x.c = xcc at HK HC
          generalize x.n = xn at HK HC
          generalize x.s = xs at HK HC
          generalize x.kids = xv at HK HC
          have hmi : (0 : Int) < (m1 : Int) + 1 := by omega
          go_enter Tryd.func34, Tryd.ntmps34
          go_upto_region 1 with fail
          show Code.wp _ _ _ _ ((w.alloc (.cells #[.int .i64 4, .int .i64 c, .int .i64 nn, .string s, .slice (some ⟨b, off, none⟩) (m1 + 1) cap] 24)).alloc (.cells #[.int .i64 0, .int .i64 0, .int .i64 0, .string ⟨#[]⟩, .slice none 0 0] 24))
          have hbz : Below (w.alloc (.cells #[.int .i64 4, .int .i64 c, .int .i64 nn, .string s, .slice (some ⟨b, off, none⟩) (m1 + 1) cap] 24)).heap.size (w.alloc (.cells #[.int .i64 4, .int .i64 c, .int .i64 nn, .string s, .slice (some ⟨b, off, none⟩) (m1 + 1) cap] 24)) ((w.alloc (.cells #[.int .i64 4, .int .i64 c, .int .i64 nn, .string s, .slice (some ⟨b, off, none⟩) (m1 + 1) cap] 24)).alloc (.cells #[.int .i64 0, .int .i64 0, .int .i64 0, .string ⟨#[]⟩, .slice none 0 0] 24)) := (Below.refl _ _).alloc (Nat.le_refl _) _
          have hblk : ((w.alloc (.cells #[.int .i64 4, .int .i64 c, .int .i64 nn, .string s, .slice (some ⟨b, off, none⟩) (m1 + 1) cap] 24)).alloc (.cells #[.int .i64 0, .int .i64 0, .int .i64 0, .string ⟨#[]⟩, .slice none 0 0] 24)).heap[w.heap.size + 1]? = some (.cells #[.int .i64 0, .int .i64 0, .int .i64 0, .string ⟨#[]⟩, .slice none 0 0] 24 (0, 0)) := by rw [← hsz0]; exact Array.getElem?_push_size
          have HBX2 : Hid (∀ W, Below ((w.alloc (.cells #[.int .i64 4, .int .i64 c, .int .i64 nn, .string s, .slice (some ⟨b, off, none⟩) (m1 + 1) cap] 24)).alloc (.cells #[.int .i64 0, .int .i64 0, .int .i64 0, .string ⟨#[]⟩, .slice none 0 0] 24)).heap.size ((w.alloc (.cells #[.int .i64 4, .int .i64 c, .int .i64 nn, .string s, .slice (some ⟨b, off, none⟩) (m1 + 1) cap] 24)).alloc (.cells #[.int .i64 0, .int .i64 0, .int .i64 0, .string ⟨#[]⟩, .slice none 0 0] 24)) W → _) := Lib.hid fun W h => HBX.out W (trans_b hbz h)
          have hbb := trans_b hb0 hbz
          clear hbz
          generalize ((w.alloc (.cells #[.int .i64 4, .int .i64 c, .int .i64 nn, .string s, .slice (some ⟨b, off, none⟩) (m1 + 1) cap] 24)).alloc (.cells #[.int .i64 0, .int .i64 0, .int .i64 0, .string ⟨#[]⟩, .slice none 0 0] 24)) = w0 at HBX2 hblk hbb ⊢
          obtain ⟨c0, c1, c2, c3, c4⟩ := HBX2.out w0 (Below.refl _ _)
          have h1 := HIS2.out w0
          have HB2 : Hid (∀ W, Below w0.heap.size w0 W → Below w.heap.size w W) := Lib.hid fun W h => trans_b hbb h
          have HTH : Hid (∀ (W : World) (cs : Array Value), Below w0.heap.size w0 W → Fit5 cs → W.there (w.heap.size + 1) 0 cs.size) := Lib.hid fun W cs h hf => there_blk ((h.block _ (Array.getElem?_eq_some_iff.1 hblk).1).trans hblk) _ hf.size
          have HFZ := Lib.hid (fit_fnd none)
          clear hb0 HIS2 hbb hblk HBX hsz0
          go_upto_region 3 with (go_at_call 29; refine h1.mono ?_; rintro e w1 ⟨rfl, hb1⟩)
          clear c0 c1 c2 c3 c4 h1
          obtain ⟨c0, c1, c2, c3, c4⟩ := HBX2.out w1 hb1
          have HB3 := Lib.hid hb1
          clear hb1
          have HW1 := Lib.hid (HB2.out _ HB3.out)
          obtain ⟨d0, d1, d2, d3, d4⟩ := HK.out _ HW1.out
          have hcall := HC.out _ HW1.out
          go_wp2_with (first | (go_at_call 34; refine hcall.mono ?_; rintro e w2 ⟨rfl, hb2⟩; have HB4 := Lib.hid (trans_b HB3.out hb2); have HT2 := Lib.hid (HTH.out w2 xs5 HB4.out HFX.out); clear hb2 hcall) | (with_reducible refine wpList_store_mid rfl 24 (.tmp 2) (.tmp 27) rfl (w.heap.size + 1) 0 xs5 rfl rfl HT2.out HFX.out.z HFX.out.a ?_))
          have hLd := load5 w2 (w.heap.size + 1) xs5 HT2.out HFX.out
          refine bodyPost_ret (v := .tuple #[.agg xs5, .bool xb]) ?_ rfl (FndPost.mk HX5.out HXB.out (below_setCells _ _ _ _ (HB2.out _ HB4.out) (by omega)))
          simp [results, Tryd.results34, hLd, asAddr, Act.put]
      have t4 : (k == 4) = false := by simpa using k4
      rw [if_neg k4]
      clear k4
      by_cases k5 : k = 5
      · subst k5
        rw [if_pos rfl]
        generalize hr : ND.fndL l = r
        have HR := Lib.hid hr
        clear hr
        go_enter Tryd.func34, Tryd.ntmps34
        go_upto_region 1 with fail
        show Code.wp _ _ _ _ ((w.alloc (.cells #[.int .i64 5, .int .i64 c, .int .i64 nn, .string s, .slice A m cap] 24)).alloc (.cells #[.int .i64 0, .int .i64 0, .int .i64 0, .string ⟨#[]⟩, .slice none 0 0] 24))
        have hbz : Below (w.alloc (.cells #[.int .i64 5, .int .i64 c, .int .i64 nn, .string s, .slice A m cap] 24)).heap.size (w.alloc (.cells #[.int .i64 5, .int .i64 c, .int .i64 nn, .string s, .slice A m cap] 24)) ((w.alloc (.cells #[.int .i64 5, .int .i64 c, .int .i64 nn, .string s, .slice A m cap] 24)).alloc (.cells #[.int .i64 0, .int .i64 0, .int .i64 0, .string ⟨#[]⟩, .slice none 0 0] 24)) := (Below.refl _ _).alloc (Nat.le_refl _) _
        have hblk : ((w.alloc (.cells #[.int .i64 5, .int .i64 c, .int .i64 nn, .string s, .slice A m cap] 24)).alloc (.cells #[.int .i64 0, .int .i64 0, .int .i64 0, .string ⟨#[]⟩, .slice none 0 0] 24)).heap[w.heap.size + 1]? = some (.cells #[.int .i64 0, .int .i64 0, .int .i64 0, .string ⟨#[]⟩, .slice none 0 0] 24 (0, 0)) := by rw [← hsz0]; exact Array.getElem?_push_size
        have HBX2 : Hid (∀ W, Below ((w.alloc (.cells #[.int .i64 5, .int .i64 c, .int .i64 nn, .string s, .slice A m cap] 24)).alloc (.cells #[.int .i64 0, .int .i64 0, .int .i64 0, .string ⟨#[]⟩, .slice none 0 0] 24)).heap.size ((w.alloc (.cells #[.int .i64 5, .int .i64 c, .int .i64 nn, .string s, .slice A m cap] 24)).alloc (.cells #[.int .i64 0, .int .i64 0, .int .i64 0, .string ⟨#[]⟩, .slice none 0 0] 24)) W → _) := Lib.hid fun W h => HBX.out W (trans_b hbz h)
        have hbb := trans_b hb0 hbz
        clear hbz
        generalize ((w.alloc (.cells #[.int .i64 5, .int .i64 c, .int .i64 nn, .string s, .slice A m cap] 24)).alloc (.cells #[.int .i64 0, .int .i64 0, .int .i64 0, .string ⟨#[]⟩, .slice none 0 0] 24)) = w0 at HBX2 hblk hbb ⊢
        obtain ⟨c0, c1, c2, c3, c4⟩ := HBX2.out w0 (Below.refl _ _)
        have h1 := HIS2.out w0
        have HB2 : Hid (∀ W, Below w0.heap.size w0 W → Below w.heap.size w W) := Lib.hid fun W h => trans_b hbb h
        have HTH : Hid (∀ (W : World) (cs : Array Value), Below w0.heap.size w0 W → Fit5 cs → W.there (w.heap.size + 1) 0 cs.size) := Lib.hid fun W cs h hf => there_blk ((h.block _ (Array.getElem?_eq_some_iff.1 hblk).1).trans hblk) _ hf.size
        have HFZ := Lib.hid (fit_fnd none)
        clear hb0 HIS2 hbb hblk HBX hsz0
        go_upto_region 3 with (go_at_call 29; refine h1.mono ?_; rintro e w1 ⟨rfl, hb1⟩)
        clear c0 c1 c2 c3 c4 h1
        obtain ⟨c0, c1, c2, c3, c4⟩ := HBX2.out w1 hb1
        have HB3 := Lib.hid hb1
        clear hb1
        have HW1 := Lib.hid (HB2.out _ HB3.out)
        go_wp2
        go_loopw [4] (fun i W => ∃ j : Nat, i = .int .i64 j ∧ j ≤ m ∧ Hid (ND.fndL (l.take j) = none) ∧ Hid (Below w0.heap.size w0 W)) (fun i _ => m - (intOf i).toNat)
        case atStart => exact ⟨0, rfl, by omega, Lib.hid rfl, HB3⟩
        case round =>
          clear c0 c1 c2 c3 c4
          obtain ⟨j, rfl, hj, HZ, HW⟩ := hrel
          obtain ⟨c0, c1, c2, c3, c4⟩ := HBX2.out _ HW.out
          clear c0 c1 c2 c3
          by_cases hlt : j < m
          · have hjl : j < l.length := by rw [HM.out]; exact hlt
            obtain ⟨b, off, e, hc⟩ : ∃ b off, A = some ⟨b, off, none⟩ ∧ ∀ i u, (l[j]).cells[i]? = some u → w.cell? ⟨b, off + j * 5 + i, none⟩ = some u := by
              rcases HROW.out with h | ⟨b, off, e, h⟩
              · rw [h] at hjl; simp at hjl
              · exact ⟨b, off, e, fun i u hu => h j hjl i u hu⟩
            have hmem : l[j] ∈ l := List.getElem_mem hjl
            have hsn := fndL_none_take l j hjl HZ.out
            have hsm := fndL_some l j hjl HZ.out
            generalize l[j] = x at hc hmem hsn hsm
            have HS1 := Lib.hid hsn
            have HS2 := Lib.hid hsm
            have hb := HB2.out _ HW.out
            have d0 := keep1 hb (hc 0 _ rfl)
            have d1 := keep1 hb (hc 1 _ rfl)
            have d2 := keep1 hb (hc 2 _ rfl)
            have d3 := keep1 hb (hc 3 _ rfl)
            have d4 := keep1 hb (hc 4 _ rfl)
            have hcall : Calls Tryd.prog 34 #[.agg #[.int .i64 x.k, .int .i64 x.c, .int .i64 x.n, .string x.s, x.kids]] wr fun e w' => e = .returned (.tuple #[.agg (fndC x.fnd), .bool x.fnd.isSome]) ∧ Below wr.heap.size wr w' := HIH.out x wr (HSZ.out x hmem) ((HIN.out x hmem).below hb)
            subst e
            clear hc hjl hmem hsn hsm hb
            generalize hx : x.fnd = xf at hcall
            have HX := Lib.hid hx
            clear hx
            generalize x.k = xk at d0 hcall
            generalize x.c = xcc at d1 hcall
            generalize x.n = xn at d2 hcall
            generalize x.s = xs at d3 hcall
            generalize x.kids = xv at d4 hcall
            simp only [Nat.add_zero] at d0
            have hmi : (j : Int) < m := by omega
            cases xf with
            | none =>
              have HN2 : Hid (ND.fndL (l.take (j + 1)) = none) := Lib.hid (HS1.out.trans HX.out)
              have HNZ : Hid (∀ w2 : World, (w2.alloc (.cells #[.int .i64 0, .int .i64 0, .int .i64 0, .string ⟨#[]⟩, .slice none 0 0] 24)).there w2.heap.size 0 (#[.int .i64 0, .int .i64 0, .int .i64 0, .string ⟨#[]⟩, .slice none 0 0] : Array Value).size) := Lib.hid fun w2 => there_blk (cs := #[.int .i64 0, .int .i64 0, .int .i64 0, .string ⟨#[]⟩, .slice none 0 0]) (t := 24) Array.getElem?_push_size _ rfl
              simp only [fndC, Option.isSome_none] at hcall
              go_wp2_with (go_at_call 34; refine hcall.mono ?_; rintro e w2 ⟨rfl, hb2⟩; have HB4 := Lib.hid (trans_b HW.out hb2); clear hb2 hcall d0 d1 d2 d3 d4 c4)
              go_roundw
              case rel => exact ⟨j + 1, by go_num, by omega, HN2, Lib.hid (HB4.out.alloc HB4.out.size _)⟩
              case measure => simp [intOf]; omega
            | some F =>
              have e : r = some F := by rw [← HR.out]; exact HS2.out F HX.out
              subst e
              have HFF := Lib.hid (fit_fnd (some F))
              have HFE : Hid (fndC (some F) = #[.int .i64 F.k, .int .i64 F.c, .int .i64 F.n, .string F.s, F.kids]) := Lib.hid rfl
              rw [HFE.out] at HFF
              simp only [fndC, Option.isSome_some] at hcall
              generalize F.k = fk at HFF HFE hcall
              generalize F.c = fc at HFF HFE hcall
              generalize F.n = fn at HFF HFE hcall
              generalize F.s = fs at HFF HFE hcall
              generalize F.kids = fv at HFF HFE hcall
              have HNZ : Hid (∀ w2 : World, (w2.alloc (.cells #[.int .i64 0, .int .i64 0, .int .i64 0, .string ⟨#[]⟩, .slice none 0 0] 24)).there w2.heap.size 0 (#[.int .i64 fk, .int .i64 fc, .int .i64 fn, .string fs, fv] : Array Value).size) := Lib.hid fun w2 => there_blk (cs := #[.int .i64 0, .int .i64 0, .int .i64 0, .string ⟨#[]⟩, .slice none 0 0]) (t := 24) Array.getElem?_push_size _ rfl
              go_upto_region 15 with (first | (go_at_call 34; refine hcall.mono ?_; rintro e w2 ⟨rfl, hb2⟩; have HB4 := Lib.hid (trans_b HW.out hb2); have HN3 := Lib.hid (HNZ.out w2); clear hb2 hcall d0 d1 d2 d3 d4 c4) | (with_reducible refine wpList_store_mid rfl 24 (.tmp 5) (.tmp 45) rfl w2.heap.size 0 #[.int .i64 fk, .int .i64 fc, .int .i64 fn, .string fs, fv] rfl rfl HN3.out HFF.out.z HFF.out.a ?_))
              have HB5 : Hid (Below w0.heap.size w0 ((w2.alloc (.cells #[.int .i64 0, .int .i64 0, .int .i64 0, .string ⟨#[]⟩, .slice none 0 0] 24)).setCells w2.heap.size 0 (#[.int .i64 fk, .int .i64 fc, .int .i64 fn, .string fs, fv] : Array Value).toList)) := Lib.hid (below_setCells _ _ _ _ (HB4.out.alloc HB4.out.size _) HB4.out.size)
              have hrg := World.rangeAt_setCells_same (w2.alloc (.cells #[.int .i64 0, .int .i64 0, .int .i64 0, .string ⟨#[]⟩, .slice none 0 0] 24)) w2.heap.size 0 (#[.int .i64 fk, .int .i64 fc, .int .i64 fn, .string fs, fv] : Array Value).toList HN3.out
              have e0 := hrg 0 _ rfl
              have e1 := hrg 1 _ rfl
              have e2 := hrg 2 _ rfl
              have e3 := hrg 3 _ rfl
              have e4 := hrg 4 _ rfl
              clear hrg
              show Code.wp _ _ _ _ ((w2.alloc (.cells #[.int .i64 0, .int .i64 0, .int .i64 0, .string ⟨#[]⟩, .slice none 0 0] 24)).setCells w2.heap.size 0 (#[.int .i64 fk, .int .i64 fc, .int .i64 fn, .string fs, fv] : Array Value).toList)
              generalize ((w2.alloc (.cells #[.int .i64 0, .int .i64 0, .int .i64 0, .string ⟨#[]⟩, .slice none 0 0] 24)).setCells w2.heap.size 0 (#[.int .i64 fk, .int .i64 fc, .int .i64 fn, .string fs, fv] : Array Value).toList) = w3 at HB5 e0 e1 e2 e3 e4 ⊢
              simp only [Nat.zero_add] at e0 e1 e2 e3 e4
              have HT2 := Lib.hid (HTH.out w3 _ HB5.out HFF.out)
              go_wp2_with (with_reducible refine wpList_store_mid rfl 24 (.tmp 2) (.tmp 48) rfl (w.heap.size + 1) 0 #[.int .i64 fk, .int .i64 fc, .int .i64 fn, .string fs, fv] rfl rfl HT2.out HFF.out.z HFF.out.a ?_)
              have hLd := load5 w3 (w.heap.size + 1) #[.int .i64 fk, .int .i64 fc, .int .i64 fn, .string fs, fv] HT2.out HFF.out
              refine bodyPost_ret (v := .tuple #[.agg #[.int .i64 fk, .int .i64 fc, .int .i64 fn, .string fs, fv], .bool true]) ?_ rfl (FndPost.mk HFE.out rfl (below_setCells _ _ _ _ (HB2.out _ HB5.out) (by omega)))
              simp [results, Tryd.results34, hLd, asAddr, Act.put]
          · obtain rfl : m = j := by omega
            have e : r = none := by rw [← HR.out]; have := HZ.out; rwa [List.take_of_length_le (by rw [HM.out]; exact Nat.le_refl _)] at this
            subst e
            have w1 := wr
            have HT := HTH.out wr #[.int .i64 0, .int .i64 0, .int .i64 0, .string ⟨#[]⟩, .slice none 0 0] HW.out HFZ.out
            have HT2 := Lib.hid HT
            clear HT
            go_wp2_with (refine wpList_store_mid rfl 24 (.tmp 2) (.tmp 49) rfl (w.heap.size + 1) 0 #[.int .i64 0, .int .i64 0, .int .i64 0, .string ⟨#[]⟩, .slice none 0 0] rfl rfl HT2.out HFZ.out.z HFZ.out.a ?_)
            have hLd := load5 wr (w.heap.size + 1) #[.int .i64 0, .int .i64 0, .int .i64 0, .string ⟨#[]⟩, .slice none 0 0] HT2.out HFZ.out
            refine bodyPost_ret (v := .tuple #[.agg #[.int .i64 0, .int .i64 0, .int .i64 0, .string ⟨#[]⟩, .slice none 0 0], .bool false]) ?_ rfl (FndPost.mk rfl rfl (below_setCells _ _ _ _ (HB2.out _ HW.out) (by omega)))
            simp [results, Tryd.results34, hLd, asAddr, Act.put]
      have t5 : (k == 5) = false := by simpa using k5
      rw [if_neg k5]
      clear k5
      go_enter Tryd.func34, Tryd.ntmps34
      go_upto_region 1 with fail
      show Code.wp _ _ _ _ ((w.alloc (.cells #[.int .i64 k, .int .i64 c, .int .i64 nn, .string s, .slice A m cap] 24)).alloc (.cells #[.int .i64 0, .int .i64 0, .int .i64 0, .string ⟨#[]⟩, .slice none 0 0] 24))
      have hbz : Below (w.alloc (.cells #[.int .i64 k, .int .i64 c, .int .i64 nn, .string s, .slice A m cap] 24)).heap.size (w.alloc (.cells #[.int .i64 k, .int .i64 c, .int .i64 nn, .string s, .slice A m cap] 24)) ((w.alloc (.cells #[.int .i64 k, .int .i64 c, .int .i64 nn, .string s, .slice A m cap] 24)).alloc (.cells #[.int .i64 0, .int .i64 0, .int .i64 0, .string ⟨#[]⟩, .slice none 0 0] 24)) := (Below.refl _ _).alloc (Nat.le_refl _) _
      have hblk : ((w.alloc (.cells #[.int .i64 k, .int .i64 c, .int .i64 nn, .string s, .slice A m cap] 24)).alloc (.cells #[.int .i64 0, .int .i64 0, .int .i64 0, .string ⟨#[]⟩, .slice none 0 0] 24)).heap[w.heap.size + 1]? = some (.cells #[.int .i64 0, .int .i64 0, .int .i64 0, .string ⟨#[]⟩, .slice none 0 0] 24 (0, 0)) := by rw [← hsz0]; exact Array.getElem?_push_size
      have HBX2 : Hid (∀ W, Below ((w.alloc (.cells #[.int .i64 k, .int .i64 c, .int .i64 nn, .string s, .slice A m cap] 24)).alloc (.cells #[.int .i64 0, .int .i64 0, .int .i64 0, .string ⟨#[]⟩, .slice none 0 0] 24)).heap.size ((w.alloc (.cells #[.int .i64 k, .int .i64 c, .int .i64 nn, .string s, .slice A m cap] 24)).alloc (.cells #[.int .i64 0, .int .i64 0, .int .i64 0, .string ⟨#[]⟩, .slice none 0 0] 24)) W → _) := Lib.hid fun W h => HBX.out W (trans_b hbz h)
      have hbb := trans_b hb0 hbz
      clear hbz
      generalize ((w.alloc (.cells #[.int .i64 k, .int .i64 c, .int .i64 nn, .string s, .slice A m cap] 24)).alloc (.cells #[.int .i64 0, .int .i64 0, .int .i64 0, .string ⟨#[]⟩, .slice none 0 0] 24)) = w0 at HBX2 hblk hbb ⊢
      obtain ⟨c0, c1, c2, c3, c4⟩ := HBX2.out w0 (Below.refl _ _)
      have h1 := HIS2.out w0
      have HB2 : Hid (∀ W, Below w0.heap.size w0 W → Below w.heap.size w W) := Lib.hid fun W h => trans_b hbb h
      have HTH : Hid (∀ (W : World) (cs : Array Value), Below w0.heap.size w0 W → Fit5 cs → W.there (w.heap.size + 1) 0 cs.size) := Lib.hid fun W cs h hf => there_blk ((h.block _ (Array.getElem?_eq_some_iff.1 hblk).1).trans hblk) _ hf.size
      have HFZ := Lib.hid (fit_fnd none)
      clear hb0 HIS2 hbb hblk HBX hsz0
      go_upto_region 3 with (go_at_call 29; refine h1.mono ?_; rintro e w1 ⟨rfl, hb1⟩)
      clear c0 c1 c2 c3 c4 h1
      obtain ⟨c0, c1, c2, c3, c4⟩ := HBX2.out w1 hb1
      have HB3 := Lib.hid hb1
      clear hb1
      have HT := HTH.out w1 #[.int .i64 0, .int .i64 0, .int .i64 0, .string ⟨#[]⟩, .slice none 0 0] HB3.out HFZ.out
      have HT2 := Lib.hid HT
      clear HT
      go_wp2_with (refine wpList_store_mid rfl 24 (.tmp 2) (.tmp 49) rfl (w.heap.size + 1) 0 #[.int .i64 0, .int .i64 0, .int .i64 0, .string ⟨#[]⟩, .slice none 0 0] rfl rfl HT2.out HFZ.out.z HFZ.out.a ?_)
      have hLd := load5 w1 (w.heap.size + 1) #[.int .i64 0, .int .i64 0, .int .i64 0, .string ⟨#[]⟩, .slice none 0 0] HT2.out HFZ.out
      refine bodyPost_ret (v := .tuple #[.agg #[.int .i64 0, .int .i64 0, .int .i64 0, .string ⟨#[]⟩, .slice none 0 0], .bool false]) ?_ rfl (FndPost.mk rfl rfl (below_setCells _ _ _ _ (HB2.out _ HB3.out) (by omega)))
      simp [results, Tryd.results34, hLd, asAddr, Act.put]
end Go.Proofs.YtfjgjhicinaolaaDoor
