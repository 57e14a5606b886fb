/- Xdd · Xeb: merged. -/
import Derived.Test.YtcpkjmpbpmeclaaGreatDoorMXdc
import Derived.Test.YtcpkjmpbpmeclaaGreatDoorMat
import Derived.Test.YtcpkjmpbpmeclaaGreatDoorMae
import Derived.Test.YtcpkjmpbpmeclaaGreatDoorMaz
namespace Go.Proofs.YtcpkjmpbpmeclaaGreatDoor
open Go.RowKit
set_option maxRecDepth 100000
set_option linter.unusedVariables false
set_option linter.unusedSimpArgs false
set_option linter.unnecessarySimpa false

/-- What Map answers. -/
def MapR (a : Nat → Addr) (l : List VT) (w : World) (e : Ending) (w' : World) : Prop :=
 (l.length % 2 = 1 ∧ MErr a 1 (l.length : Nat) ⟨#[]⟩ w e w') ∨
 (l.length % 2 = 0 ∧ ∃ (i : Nat) (h : i < l.length) (k : Nat) (r : List Nat), checkV l[i] = some ((k : Int), r) ∧ 1 ≤ k ∧ k ≤ 11 ∧ (∀ j (hj : j < i), checkV (l[j]'(by omega)) = none) ∧ MErr a k 0 (strU (pathB (i :: r))) w e w') ∨
 (l.length % 2 = 0 ∧ (∀ x ∈ l, checkV x = none) ∧ ∃ n : Nat, TwiceAt cmpV (keyG l) (l.length / 2) (n : Nat) ∧ MErr a 3 (n : Nat) ⟨#[]⟩ w e w') ∨
 (l.length % 2 = 0 ∧ (∀ x ∈ l, checkV x = none) ∧ TwiceAt cmpV (keyG l) (l.length / 2) (-1) ∧ (∃ x ∈ l, 128 ≤ x.depth) ∧ e = .returned (.tuple #[.agg zeroV, .iface 330 (.pointer (some (a 5)))])) ∨
 (l.length % 2 = 0 ∧ (∀ x ∈ l, checkV x = none) ∧ TwiceAt cmpV (keyG l) (l.length / 2) (-1) ∧ (∀ x ∈ l, x.depth < 128) ∧ ∃ T, e = .returned (.tuple #[T.agg, .nilIface]) ∧ Mine w.heap.size w' T ∧ MapV l T)
def ckOf : Option (List Nat) → Option (List Nat) → Option (Int × List Nat)
 | some r, _ => some (1, r)
 | none, some r => some (5, r)
 | none, none => none
theorem mapR_check {x : VT} {r1 r2 : Option (List Nat)} (h1 : badAt notAlone x 0 = r1) (h2 : badAt tooDeep x 0 = r2) : checkV x = ckOf r1 r2 := by
 unfold checkV
 rw [h1, h2]
 cases r1 <;> cases r2 <;> rfl
/-- Of pairs that are copies: the order of their keys. -/
theorem keyG_pairs {l : List VT} {L : List ELp} (h : PairsOf l L) (i : Nat) (hi : i < L.length) : (keyG l (i : Int)).c = (L[i]).key.c := by
 obtain ⟨h2, hk, _⟩ := h i hi
 unfold keyG
 rw [Int.toNat_natCast, List.getElem?_eq_getElem (by omega)]
 exact hk.symm
def dummyP : ELp := ⟨zeroT, zeroT, 0⟩
def gfP (L : List ELp) (i : Int) : ELp := (L[i.toNat]?).getD dummyP
theorem gfP_at (L : List ELp) (i : Nat) (h : i < L.length) : gfP L (i : Int) = L[i] := by
 unfold gfP
 rw [Int.toNat_natCast, List.getElem?_eq_getElem h]
 rfl
theorem twice_keys {l : List VT} {L : List ELp} (h : PairsOf l L) {f : Int} (ht : TwiceAt pairC (gfP L) L.length f) : TwiceAt cmpV (keyG l) L.length f := by
 have e : ∀ i j : Nat, i < L.length → j < L.length → pairC (gfP L i) (gfP L j) = cmpV (keyG l i) (keyG l j) := fun i j hi hj => by
  unfold pairC
  rw [gfP_at L i hi, gfP_at L j hj]
  exact cmpV_same (keyG_pairs h i hi).symm (keyG_pairs h j hj).symm
 rcases ht with ⟨h1, h2⟩ | ⟨j, h1, h2, ⟨i, h3, h4⟩, h5⟩
 ·exact .inl ⟨h1, fun i j hij hj => by rw [← e i j (by omega) hj]; exact h2 i j hij hj⟩
 ·exact .inr ⟨j, h1, h2, ⟨i, h3, by rw [← e i j (by omega) h2]; exact h4⟩, fun i k hik hkj => by rw [← e i k (by omega) (by omega)]; exact h5 i k hik hkj⟩
theorem sz_c_n : ∀ (n : Nat) (a b : VT), a.sz ≤ n → a.c = b.c → a.sz = b.sz
 | 0, a, b, h, _ => by have := a.sz_pos; omega
 | n + 1, a, b, h, e => by
  obtain ⟨_, _, _, hm, _, _, ht, hl⟩ := (VT.c_iff a b).1 e
  have key : ∀ (l m : List VT), (∀ x ∈ l, x.sz ≤ n) → l.map VT.c = m.map VT.c → VT.szL l = VT.szL m := by
   intro l
   induction l with
   | nil => intro m _ e; cases m with | nil => rfl | cons y m => cases e
   | cons x l ih =>
    intro m hx e
    cases m with
    | nil => cases e
    | cons y m =>
     rw [List.map_cons, List.map_cons] at e
     injection e with e1 e2
     simp only [VT.szL]
     rw [sz_c_n n x y (hx x (by simp)) e1, ih m (fun z hz => hx z (by simp [hz])) e2]
  rw [VT.sz_l a, VT.sz_l b, hm, ht, key a.l b.l (fun x hx => by have := VT.kid_sz hx; omega) hl]
theorem sz_c {a b : VT} (h : a.c = b.c) : a.sz = b.sz := sz_c_n _ a b (Nat.le_refl _) h
/-- The pairs' keys, for the order. -/
theorem prs_cmp {base : Nat} {W : World} {v : Value} {l : List VT} {L : List ELp} (h : Prs base W v l L) (hS : Shapes W) (hz : VT.szL l ≤ 1000000000) : Cmpp W pairC L :=
 map3_any W L hS fun x hx => by
  obtain ⟨i, hi, rfl⟩ := List.mem_iff_getElem.1 hx
  obtain ⟨h2, hk, _⟩ := h.kc i hi
  have hm : (l[2 * i]'(by omega)) ∈ l := List.getElem_mem _
  have := VT.szL_mem hm
  exact ⟨by rw [sz_c hk]; omega, (h.mine.m _ hx).1.in_⟩
theorem prs_row {base : Nat} {W : World} {v : Value} {l : List VT} {L : List ELp} (h : Prs base W v l L) (h0 : 0 < L.length) : ∃ g cap, v = .slice (some ⟨g, 0, none⟩) L.length cap ∧ ERowp W g 0 L := by
 rcases h.row.2 with ⟨_, e⟩ | ⟨g, cap, cur, e, h1, h2, h3, h4, h5, h6⟩
 ·omega
 ·refine ⟨g, cap, e, fun i hi j u hu => ?_⟩
  have hj : j < 17 := by have := (List.getElem?_eq_some_iff.1 hu).1; rwa [encp_len] at this
  have hc := h.row.cells (g := g) (by rw [e]; rfl) (i * 17 + j) u (by rw [flatp_at L i hi j hj]; exact hu)
  rwa [add_plain, show i * 17 + j = 0 + i * 17 + j by omega] at hc
theorem prs_none {base : Nat} {W : World} {v : Value} {l : List VT} {L : List ELp} (h : Prs base W v l L) (h0 : L.length = 0) : ∃ A cap, v = .slice A 0 cap := by
 rcases h.row.2 with ⟨e, _⟩ | ⟨g, cap, cur, e, _⟩
 ·exact ⟨_, _, e⟩
 ·exact ⟨_, _, by rw [e, h0]⟩
theorem mp_depth (w : World) (v : VT) (hz : v.sz ≤ 1000000000) (hI : In w v) : Calls Tryz.prog 38 #[v.agg] w fun e w' => e = .returned (.int .i64 (v.depth : Nat)) ∧ Below w.heap.size w w' := depth_any v w hz hI
theorem map_any (a : Nat → Addr) (A : Option Addr) (c : Nat) (l : List VT) (w : World) (hz : VT.szL l ≤ 1000000000) (hr : VRow w A l) (hI : InL w l) (hT : Tabs a w) :
  Calls Tryz.prog 35 #[.slice A l.length c] w fun e w' => MapR a l w e w' ∧ Below w.heap.size w w' := by
 have hln := VT.szL_len l
 have hs : ∀ i (h : i < l.length), (l[i]).sz ≤ 1000000000 := fun i h => by have := VT.szL_mem (List.getElem_mem h); omega
 have hIi : ∀ i (h : i < l.length), In w l[i] := fun i h => hI.mem (List.getElem_mem h)
 have hg : ∀ (i : Nat) (h : i < l.length), (l[i]?).getD zeroT = l[i] := fun i h => by rw [List.getElem?_eq_getElem h]; rfl
 have hall : (∀ j, j < l.length → badAt notAlone ((l[j]?).getD zeroT) 0 = none ∧ badAt tooDeep ((l[j]?).getD zeroT) 0 = none) → ∀ x ∈ l, checkV x = none := fun h x hx => by
  obtain ⟨i, hi, rfl⟩ := List.mem_iff_getElem.1 hx
  have := h i hi
  rw [hg i hi] at this
  rw [mapR_check this.1 this.2]
  rfl
 have hpre : ∀ i, i < l.length → (∀ j, j < i → badAt notAlone ((l[j]?).getD zeroT) 0 = none ∧ badAt tooDeep ((l[j]?).getD zeroT) 0 = none) → ∀ j (hj : j < i) (hl : j < l.length), checkV l[j] = none := fun i hi h j hj hl => by
  have := h j hj
  rw [hg j hl] at this
  rw [mapR_check this.1 this.2]
  rfl
 refine mapW a A c l.length l (fun i => badAt notAlone ((l[i]?).getD zeroT) 0) (fun i => badAt tooDeep ((l[i]?).getD zeroT) 0) (fun i => ((l[i]?).getD zeroT).depth) (MapR a l w) w rfl (by omega) hr
  (Lib.hid fun i h W hW => ?_) (Lib.hid fun i h W hW => ?_) (Lib.hid fun i h W hW => ?_) (Lib.hid fun i h W hW => copyV_any _ W (hs i h) ((hIi i h).below hW))
  (Lib.hid fun W hW => ⟨(hT.e.below hW).g 1 (by omega) (by omega), (hT.e.below hW).g 5 (by omega) (by omega), (hT.e.below hW).g 3 (by omega) (by omega)⟩)
  (Lib.hid fun n hn W hW => itoa_any n W (by omega) (hT.p.below hW))
  (Lib.hid fun W v L hW hP hL => ?_) (Lib.hid fun W v L hW hP hL => ?_) (Lib.hid fun i r hi h => ?_)
  (Lib.hid fun hm e w' h => .inl ⟨hm, h⟩) (Lib.hid fun hm i r hi h e w' he => ?_) (Lib.hid fun hm i r hi h e w' he => ?_)
  (Lib.hid fun hm h n ht e w' he => .inr (.inr (.inl ⟨hm, hall h, n, ht, he⟩)))
  (Lib.hid fun hm h ht ⟨j, hj, hd⟩ w' => .inr (.inr (.inr (.inl ⟨hm, hall h, ht, ⟨l[j], List.getElem_mem hj, by rw [← hg j hj]; exact hd⟩, rfl⟩))))
  (Lib.hid fun hm h ht hd T w' hM hV => .inr (.inr (.inr (.inr ⟨hm, hall h, ht, fun x hx => by
   obtain ⟨i, hi, rfl⟩ := List.mem_iff_getElem.1 hx
   have := hd i hi
   rwa [hg i hi] at this, T, rfl, hM, hV⟩))))
 ·rw [hg i h]
  exact walk_any l[i] 125 notAlone mp1_enter W (hs i h) ((hIi i h).below hW) (hT.p.below hW) (mp1_wrong W _ (hs i h) (hT.below hW))
 ·rw [hg i h]
  exact walk_any l[i] 127 tooDeep mp2_enter W (hs i h) ((hIi i h).below hW) (hT.p.below hW) (mp2_wrong W _)
 ·rw [hg i h]
  exact mp_depth W l[i] (hs i h) ((hIi i h).below hW)
 ·by_cases h0 : 0 < L.length
  ·obtain ⟨g, cap, rfl, hrow⟩ := prs_row hP h0
   exact (twiceW g 0 cap L.length pairC L W (gfP L) rfl h0 (by omega) hrow (prs_cmp hP (hT.s.below hW) hz) pairC_ord (gfP_at L)).mono fun e w' ⟨f, e1, hf, hb⟩ => ⟨f, e1, Lib.hid (twice_keys hP.kc hf.out), hb⟩
  ·obtain ⟨A', cap, rfl⟩ := prs_none hP (by omega)
   exact (twice_none A' cap W).mono fun e w' ⟨e1, hb⟩ => ⟨-1, e1, Lib.hid (.inl ⟨rfl, fun i j hij hj => by omega⟩), hb⟩
 ·by_cases h0 : 0 < L.length
  ·obtain ⟨g, cap, rfl, hrow⟩ := prs_row hP h0
   refine (sortp_any g 0 cap L.length pairC pairC L W rfl h0 (by omega) hrow (prs_cmp hP (hT.s.below hW) hz) pairC_ord (pairC_stab L)).mono ?_
   rintro e w' ⟨gb, cap', csz, R, rfl, hR, hb⟩
   obtain ⟨h1, ⟨cur, h2, _⟩, h3, h4, h5⟩ := hR.out
   exact ⟨_, cap', R, rfl, Lib.hid ⟨fun _ => ⟨gb, rfl, h1, h3, (Array.getElem?_eq_some_iff.1 h2).1⟩, h4, h5⟩, hb⟩
  ·have hl0 : L.length = 0 := by omega
   obtain ⟨A', cap, rfl⟩ := prs_none hP hl0
   have hnil : L = [] := List.eq_nil_of_length_eq_zero hl0
   refine (sortp_none A' cap W).mono ?_
   rintro e w' ⟨⟨A2, c2, rfl⟩, hb⟩
   exact ⟨A2, c2, [], by rw [hl0], Lib.hid ⟨fun h => absurd h h0, List.Pairwise.nil, by rw [hnil]⟩, hb⟩
 ·simp only [hg i hi] at h
  have hb : r.length ≤ (l[i]).sz ∧ ∀ n ∈ r, n ≤ (l[i]).sz := by
   rcases h with h | h
   ·exact badAt_small _ _ l[i] 0 r (Nat.le_refl _) h
   ·exact badAt_small _ _ l[i] 0 r (Nat.le_refl _) h
  have h1 := decB_len i (by omega)
  have h2 := pathB_len r fun n hn => by have := hb.2 n hn; have := hs i hi; omega
  have h3 := hs i hi
  exact ⟨by omega, by omega⟩
 ·obtain ⟨h1, h2⟩ := h
  simp only [hg i hi] at h1
  exact .inr (.inl ⟨hm, i, hi, 1, r, (mapR_check h1 rfl).trans rfl, by omega, by omega, fun j hj => hpre i hi h2 j hj (by omega), he⟩)
 ·obtain ⟨h1, h2, h3⟩ := h
  simp only [hg i hi] at h1 h2
  exact .inr (.inl ⟨hm, i, hi, 5, r, (mapR_check h1 h2).trans rfl, by omega, by omega, fun j hj => hpre i hi h3 j hj (by omega), he⟩)
end Go.Proofs.YtcpkjmpbpmeclaaGreatDoor
namespace Go.Proofs.YtcpkjmpbpmeclaaGreatDoor
set_option maxRecDepth 100000
set_option linter.unusedVariables false
set_option linter.unusedSimpArgs false
set_option linter.unnecessarySimpa false

def tA : VT := textC ⟨#[97]⟩
def tB : VT := textC ⟨#[98]⟩
def tC : VT := textC ⟨#[99]⟩
/-- The law's map. -/
def mC : VT := .mk 8 0 false none 0 [] 0 0 ⟨#[]⟩ none 0 [tA, wholeC 2, tB, wholeC 1]
/-- The law's list. -/
def oC : VT := .mk 7 0 false none 0 [] 0 0 ⟨#[]⟩ none 0 [wholeC 1, zeroT]
theorem textC_c (s : ByteArray) : (textC s).c = textC s := by rw [VT.c_eq]; rfl
theorem wholeC_c (n : Int) : (wholeC n).c = wholeC n := by rw [VT.c_eq]; rfl
theorem badAt_leaf {p : VT → Nat → Bool} {v : VT} {d : Nat} (hp : p v d = false) (hl : v.l = []) : badAt p v d = none := by
 rw [badAt_eq, hp, hl]
 rfl
theorem notAlone_of {v : VT} {d : Nat} (h : Alone v) : notAlone v d = false := by unfold notAlone; rw [(alone_iff v).2 h]; rfl
theorem text_rest (s : ByteArray) : RestOk (textC s) :=
 ⟨fun _ _ _ => rfl, fun _ => ⟨rfl, rfl⟩, fun _ => rfl, fun _ => rfl, fun h => absurd rfl h, fun _ _ _ => rfl⟩
theorem text_alone (s : ByteArray) (h : Utf.badF s = s.size) : Alone (textC s) := ⟨.inr (.inr (.inr (.inr (.inl ⟨rfl, h⟩)))), text_rest s⟩
theorem whole_alone (n : Int) : Alone (wholeC n) := by
 refine ⟨.inr (.inr (.inl ⟨rfl, ?_⟩)), ⟨fun _ _ _ => rfl, fun h => absurd rfl h, fun _ => rfl, fun _ => rfl, fun _ _ _ => rfl, fun _ _ _ => rfl⟩⟩
 show NormalI false (if n = 0 then [] else [n])
 by_cases h : n = 0
 ·rw [if_pos h]; exact .inl ⟨rfl, rfl⟩
 ·rw [if_neg h]; exact .inr ⟨by simp, h⟩
theorem tA_alone : Alone tA := text_alone _ (by kernel_rfl)
theorem tB_alone : Alone tB := text_alone _ (by kernel_rfl)
theorem tC_alone : Alone tC := text_alone _ (by kernel_rfl)
theorem leaf_ok {v : VT} (h : Alone v) (hl : v.l = []) : checkV v = none := by
 rw [mapR_check (badAt_leaf (notAlone_of h) hl) (badAt_leaf (p := tooDeep) (d := 0) (by unfold tooDeep; simp) hl)]
 rfl
theorem zeroT_not : notAlone zeroT 1 = true := by
 have h : ¬ Alone zeroT := by
  rintro ⟨h, _⟩
  unfold KindOk at h
  have hk : zeroT.k = 0 := rfl
  rw [hk] at h
  omega
 unfold notAlone
 rw [(alone_no _).2 h]
 rfl
theorem cmp_AB : cmpV tA tB = -1 := by kernel_rfl
theorem cmp_BA : cmpV tB tA = 1 := by kernel_rfl
theorem cmp_BB : cmpV tB tB = 0 := cmpV_self _
theorem cmp_AC : cmpV tA tC ≠ 0 := by
 have : cmpV tA tC = -1 := by kernel_rfl
 omega
theorem cmp_BC : cmpV tB tC ≠ 0 := by
 have : cmpV tB tC = -1 := by kernel_rfl
 omega
theorem mC_alone : Alone mC := by
 refine ⟨.inr (.inr (.inr (.inr (.inr (.inr (.inr (.inl ⟨rfl, rfl, fun i h hi => ?_⟩))))))), ⟨fun _ _ _ => rfl, fun _ => ⟨rfl, rfl⟩, fun _ => rfl, fun _ => rfl, fun _ _ _ => rfl, fun _ h => absurd rfl h⟩⟩
 have h : i + 2 < 4 := h
 obtain rfl : i = 0 := by omega
 show cmpV tA tB < 0
 rw [cmp_AB]
 omega
theorem kids_ok {p : VT → Nat → Bool} {d : Nat} : ∀ (l : List VT) (i : Nat), (∀ x ∈ l, badAt p x d = none) → badAtL p l d i = none
 | [], i, _ => rfl
 | x :: l, i, h => by
  rw [badAtL_cons, h x (by simp)]
  exact kids_ok l (i + 1) fun y hy => h y (by simp [hy])
theorem mC_ok : checkV mC = none := by
 have h1 : badAt notAlone mC 0 = none := by
  rw [badAt_eq, notAlone_of mC_alone]
  exact kids_ok _ _ fun x hx => by
   have hx : x ∈ [tA, wholeC 2, tB, wholeC 1] := hx
   simp only [List.mem_cons, List.not_mem_nil, or_false] at hx
   rcases hx with rfl | rfl | rfl | rfl
   ·exact badAt_leaf (notAlone_of tA_alone) rfl
   ·exact badAt_leaf (notAlone_of (whole_alone 2)) rfl
   ·exact badAt_leaf (notAlone_of tB_alone) rfl
   ·exact badAt_leaf (notAlone_of (whole_alone 1)) rfl
 have h2 : badAt tooDeep mC 0 = none := by
  rw [badAt_eq, show tooDeep mC 0 = false by unfold tooDeep; simp]
  exact kids_ok _ _ fun x hx => by
   have hx : x ∈ [tA, wholeC 2, tB, wholeC 1] := hx
   simp only [List.mem_cons, List.not_mem_nil, or_false] at hx
   rcases hx with rfl | rfl | rfl | rfl <;> exact badAt_leaf rfl rfl
 rw [mapR_check h1 h2]
 rfl
theorem oC_check : checkV oC = some (1, [1]) := by
 have ha : Alone oC := ⟨.inr (.inr (.inr (.inr (.inr (.inr (.inl rfl)))))), ⟨fun _ _ _ => rfl, fun _ => ⟨rfl, rfl⟩, fun _ => rfl, fun _ => rfl, fun _ _ _ => rfl, fun h => absurd rfl h⟩⟩
 have h1 : badAt notAlone oC 0 = some [1] := by
  rw [badAt_eq, notAlone_of ha]
  show badAtL notAlone [wholeC 1, zeroT] 1 0 = _
  rw [badAtL_cons, badAt_leaf (notAlone_of (whole_alone 1)) rfl]
  show badAtL notAlone [zeroT] 1 1 = _
  rw [badAtL_cons, badAt_eq, zeroT_not]
  rfl
 rw [mapR_check h1 rfl]
 rfl
theorem path_1 : strU (pathB [1]) = ⟨#[47, 49]⟩ := by kernel_rfl
/-- Each element's content. -/
theorem c_at {l c : List VT} (h : l.map VT.c = c) (i : Nat) (hi : i < l.length) (hc : i < c.length) : (l[i]).c = c[i] := by
 subst h
 simp
theorem all_ok {l c : List VT} (h : l.map VT.c = c) (hc : ∀ x ∈ c, checkV x = none) : ∀ x ∈ l, checkV x = none := fun x hx => by
 have : x.c ∈ c := by rw [← h]; exact List.mem_map.2 ⟨x, hx, rfl⟩
 rw [← checkV_c x]
 exact hc _ this
theorem keyG_c {l c : List VT} (h : l.map VT.c = c) (i : Nat) (hi : 2 * i < c.length) : (keyG l (i : Int)).c = c[2 * i] := by
 have hl : l.length = c.length := by rw [← h, List.length_map]
 unfold keyG
 rw [Int.toNat_natCast, List.getElem?_eq_getElem (by omega)]
 exact c_at h (2 * i) (by omega) hi
theorem pair_perm {α : Type} {p q : α} {R : List α} (h : R.Perm [p, q]) : R = [p, q] ∨ R = [q, p] := by
 have hl := h.length_eq
 match R, hl with
 | [x, y], _ =>
  have hx : x ∈ [p, q] := h.mem_iff.1 (by simp)
  simp only [List.mem_cons, List.not_mem_nil, or_false] at hx
  rcases hx with rfl | rfl
  ·have := (List.perm_cons x).1 h
   rw [List.perm_singleton] at this
   exact .inl (by rw [this])
  ·have := (List.perm_cons x).1 (h.trans (List.Perm.swap x p []))
   rw [List.perm_singleton] at this
   exact .inr (by rw [this])
theorem lives_map {a : Nat → Addr} {l : List VT} {w w' : World} {e : Ending} (hl : l.map VT.c = [tB, wholeC 1, tA, wholeC 2]) (h : MapR a l w e w') :
  ∃ T : VT, e = .returned (.tuple #[T.agg, .nilIface]) ∧ Mine w.heap.size w' T ∧ T.c = mC := by
 have hlen : l.length = 4 := by have := congrArg List.length hl; simpa using this
 have hok := all_ok hl (fun x hx => by
  simp only [List.mem_cons, List.not_mem_nil, or_false] at hx
  rcases hx with rfl | rfl | rfl | rfl
  ·exact leaf_ok tB_alone rfl
  ·exact leaf_ok (whole_alone 1) rfl
  ·exact leaf_ok tA_alone rfl
  ·exact leaf_ok (whole_alone 2) rfl)
 have hk : cmpV (keyG l ((0 : Nat) : Int)) (keyG l ((1 : Nat) : Int)) = 1 := by
  rw [cmpV_same (a' := tB) (b' := tA) ((keyG_c hl 0 (by decide)).trans (textC_c _).symm) ((keyG_c hl 1 (by decide)).trans (textC_c _).symm), cmp_BA]
 rcases h with ⟨h, _⟩ | ⟨_, i, hi, k, r, hc, _⟩ | ⟨_, _, n, ht, _⟩ | ⟨_, _, _, ⟨x, hx, hd⟩, _⟩ | ⟨_, _, _, _, T, he, hM, A, cap, L, R, hT, hL, hP, hS, hR⟩
 ·omega
 ·rw [hok _ (List.getElem_mem hi)] at hc
  cases hc
 ·rcases ht with ⟨h, _⟩ | ⟨j, h, hj, ⟨i, hij, h0⟩, _⟩
  ·omega
  ·have hj2 : j < 2 := by omega
   obtain rfl : j = 1 := by omega
   obtain rfl : i = 0 := by omega
   omega
 ·have hxc : x.c ∈ [tB, wholeC 1, tA, wholeC 2] := by rw [← hl]; exact List.mem_map.2 ⟨x, hx, rfl⟩
  rw [← depth_c] at hd
  simp only [List.mem_cons, List.not_mem_nil, or_false] at hxc
  have : x.c.depth = 0 := by rcases hxc with h | h | h | h <;> rw [h] <;> rfl
  omega
 ·refine ⟨T, he, hM, ?_⟩
  obtain ⟨p, q, rfl⟩ : ∃ p q, L = [p, q] := by
   have : L.length = 2 := by omega
   match L, this with
   | [p, q], _ => exact ⟨p, q, rfl⟩
  obtain ⟨_, pk, pv, _⟩ := hP 0 (by simp)
  obtain ⟨_, qk, qv, _⟩ := hP 1 (by simp)
  have pk : p.key.c = tB := pk.trans (c_at hl 0 (by omega) (by decide))
  have pv : p.val.c = wholeC 1 := pv.trans (c_at hl 1 (by omega) (by decide))
  have qk : q.key.c = tA := qk.trans (c_at hl 2 (by omega) (by decide))
  have qv : q.val.c = wholeC 2 := qv.trans (c_at hl 3 (by omega) (by decide))
  rcases pair_perm hR with rfl | rfl
  ·have := (List.pairwise_cons.1 hS).1 q (by simp)
   unfold pairC at this
   rw [cmpV_same (a' := tB) (b' := tA) (pk.trans (textC_c _).symm) (qk.trans (textC_c _).symm), cmp_BA] at this
   omega
  ·rw [hT, VT.c_eq]
   show VT.mk 8 0 false none 0 [] 0 0 ⟨#[]⟩ none 0 [q.key.c, q.val.c, p.key.c, p.val.c] = mC
   rw [pk, pv, qk, qv]
   rfl
theorem lives_twice {a : Nat → Addr} {l : List VT} {w w' : World} {e : Ending} (hl : l.map VT.c = [wholeC 0, wholeC 1, wholeC 0, wholeC 2]) (h : MapR a l w e w') : MErr a 3 1 ⟨#[]⟩ w e w' := by
 have hlen : l.length = 4 := by have := congrArg List.length hl; simpa using this
 have hok := all_ok hl (fun x hx => by
  simp only [List.mem_cons, List.not_mem_nil, or_false] at hx
  rcases hx with rfl | rfl | rfl | rfl <;> exact leaf_ok (whole_alone _) rfl)
 have hk : cmpV (keyG l ((0 : Nat) : Int)) (keyG l ((1 : Nat) : Int)) = 0 := by
  rw [cmpV_same (a' := wholeC 0) (b' := wholeC 0) ((keyG_c hl 0 (by decide)).trans (wholeC_c _).symm) ((keyG_c hl 1 (by decide)).trans (wholeC_c _).symm), cmpV_self]
 have hno : ¬ TwiceAt cmpV (keyG l) (l.length / 2) (-1) := by
  rintro (⟨_, h⟩ | ⟨j, h, _⟩)
  ·exact h 0 1 (by omega) (by omega) hk
  ·omega
 rcases h with ⟨h, _⟩ | ⟨_, i, hi, k, r, hc, _⟩ | ⟨_, _, n, ht, hE⟩ | ⟨_, _, h, _⟩ | ⟨_, _, h, _⟩
 ·omega
 ·rw [hok _ (List.getElem_mem hi)] at hc
  cases hc
 ·rcases ht with ⟨h, _⟩ | ⟨j, h, hj, ⟨i, hij, _⟩, _⟩
  ·omega
  ·have e1 : (n : Int) = 1 := by omega
   rw [e1] at hE
   exact hE
 ·exact absurd h hno
 ·exact absurd h hno
theorem find_yes {m key : VT} {w w' : World} {e : Ending} (hm : m.c = mC) (hk : key.c = tB) (h : FindR m key w e w') : ∃ T : VT, e = .returned (.tuple #[T.agg, .bool true]) ∧ Mine w.heap.size w' T ∧ T.c = wholeC 1 := by
 have hP : FindP m key := ⟨by rw [← c_k, hm]; rfl, by rw [← checkV_c, hm]; exact mC_ok, by rw [← checkV_c, hk]; exact leaf_ok tB_alone rfl⟩
 have hl : m.l.map VT.c = [tA, wholeC 2, tB, wholeC 1] := by rw [← c_l, hm]; rfl
 have hlen : m.l.length = 4 := by have := congrArg List.length hl; simpa using this
 rcases h with ⟨i, hi, T, _, h0, he, hM, hc⟩ | ⟨h, _⟩
 ·refine ⟨T, he, hM, ?_⟩
  have hi2 : i = 0 ∨ i = 1 := by omega
  rcases hi2 with rfl | rfl
  ·rw [cmpV_same (a' := tA) (b' := tB) ((c_at hl 0 (by omega) (by decide)).trans (textC_c _).symm) (hk.trans (textC_c _).symm), cmp_AB] at h0
   omega
  ·exact hc.trans (c_at hl 3 (by omega) (by decide))
 ·exact absurd (by rw [cmpV_same (a' := tB) (b' := tB) ((c_at hl 2 (by omega) (by decide)).trans (textC_c _).symm) (hk.trans (textC_c _).symm)]; exact cmp_BB) (h hP 1 (by omega))
theorem find_no {m key : VT} {w w' : World} {e : Ending} (hm : m.c = mC) (hk : key.c = tC) (h : FindR m key w e w') : e = .returned (.tuple #[.agg zeroV, .bool false]) := by
 have hl : m.l.map VT.c = [tA, wholeC 2, tB, wholeC 1] := by rw [← c_l, hm]; rfl
 have hlen : m.l.length = 4 := by have := congrArg List.length hl; simpa using this
 rcases h with ⟨i, hi, T, _, h0, _⟩ | ⟨_, h⟩
 ·have hi2 : i = 0 ∨ i = 1 := by omega
  rcases hi2 with rfl | rfl
  ·rw [cmpV_same (a' := tA) (b' := tC) ((c_at hl 0 (by omega) (by decide)).trans (textC_c _).symm) (hk.trans (textC_c _).symm)] at h0
   exact absurd h0 cmp_AC
  ·rw [cmpV_same (a' := tB) (b' := tC) ((c_at hl 2 (by omega) (by decide)).trans (textC_c _).symm) (hk.trans (textC_c _).symm)] at h0
   exact absurd h0 cmp_BC
 ·exact h
theorem nodes_c_n : ∀ (n : Nat) (v : VT), v.sz ≤ n → v.c.nodes = v.nodes
 | 0, v, h => by have := v.sz_pos; omega
 | n + 1, v, h => by
  have key : ∀ (l : List VT), (∀ x ∈ l, x.sz ≤ n) → VT.nodesL (l.map VT.c) = VT.nodesL l := by
   intro l
   induction l with
   | nil => intro _; rfl
   | cons x l ih =>
    intro hl
    have e1 := nodes_c_n n x (hl x (by simp))
    have e2 := ih fun y hy => hl y (by simp [hy])
    simp only [List.map_cons, VT.nodesL, e1, e2]
  have e := key v.l fun x hx => by have := VT.kid_sz hx; omega
  rw [VT.nodes_eq, VT.nodes_eq v, c_l, e]
theorem nodes_c (v : VT) : v.c.nodes = v.nodes := nodes_c_n _ v (Nat.le_refl _)
theorem mC_depth {m : VT} (h : m.c = mC) : m.depth = 1 := by rw [← depth_c, h]; rfl
theorem mC_nodes {m : VT} (h : m.c = mC) : m.nodes = 5 := by rw [← nodes_c, h]; rfl
end Go.Proofs.YtcpkjmpbpmeclaaGreatDoor
