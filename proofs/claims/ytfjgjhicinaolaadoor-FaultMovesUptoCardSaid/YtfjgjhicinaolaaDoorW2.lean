/- What build makes of a Node: the simple kinds. -/
import Derived.Test.YtfjgjhicinaolaaDoorW1
import Derived.Test.YtfjgjhicinaolaaDoorV
import Derived.Test.YtfjgjhicinaolaaDoorG
namespace Go.Proofs.YtfjgjhicinaolaaDoor
open Go.RowKit Go.Extern.Stop Go.Stop Go.Extern
set_option maxRecDepth 100000
set_option linter.unusedVariables false
set_option linter.unusedSimpArgs false
set_option linter.unnecessarySimpa false

def asK : Option ET → Option (Option (Int × ByteArray))
  | none => none
  | some (.fault _ n s _) => some (some (n, s))
  | some _ => some none
def fndK : Option ND → Option (Option (Int × ByteArray))
  | none => none
  | some F => if F.k = 6 then some none else some (some (F.n, F.s))
/-- The error is what the document says of the Node. -/
structure Like (N : ND) (T : ET) : Prop where
  has : ∀ j : Nat, 1 ≤ j → j ≤ 11 → T.has j = N.has j
  nil : T = .nil ↔ N.isN = true
  fa : asK T.as = fndK N.fnd
/-- What build leaves. -/
def BuildPost (a : Nat → Addr) (N : ND) (w : World) (e : Ending) (w' : World) : Prop :=
  ∃ T, e = .returned (T.val a) ∧ Foot a w.heap.size (fun _ => False) w' T ∧ Like N T ∧ Below w.heap.size w w'
theorem ND.fnd_eq (N : ND) : N.fnd = (if N.isN = true then none else if N.k = 3 ∨ N.k = 6 then some N else if N.k = 4 then ND.fndH N.l else if N.k = 5 then ND.fndL N.l else none) := by cases N; rfl
theorem isN_k (N : ND) (h : N.isN = false) : 1 ≤ N.k ∧ N.k ≤ 7 ∧ (N.k = 1 → 1 ≤ N.c ∧ N.c ≤ 11) := by
  unfold ND.isN at h
  simp at h
  omega

theorem like_nil (N : ND) (h : N.isN = true) : Like N .nil := ⟨fun j _ _ => by rw [ND.has_eq, if_pos h]; rfl, ⟨fun _ => h, fun _ => rfl⟩, by rw [ND.fnd_eq, if_pos h]; rfl⟩
theorem like_sent (N : ND) (h : N.isN = false) (hk : N.k = 1) : Like N (.sent N.c.toNat) := by
  obtain ⟨_, _, hc⟩ := isN_k N h
  have hc := hc hk
  refine ⟨fun j a b => ?_, ⟨(fun e => by cases e), (fun e => by rw [h] at e; cases e)⟩, ?_⟩
  · rw [ND.has_eq, if_neg (by simp [h]), if_pos hk]
    simp only [ET.has]
    rw [decide_eq_decide]; omega
  · rw [ND.fnd_eq, if_neg (by simp [h]), if_neg (by omega), if_neg (by omega), if_neg (by omega)]; rfl
theorem like_other (N : ND) (h : N.isN = false) (hk : N.k = 2) (ad : Addr) : Like N (.other ad) := by
  refine ⟨fun j a b => ?_, ⟨(fun e => by cases e), (fun e => by rw [h] at e; cases e)⟩, ?_⟩
  · rw [ND.has_eq, if_neg (by simp [h]), if_neg (by omega), if_neg (by omega), if_neg (by omega), if_neg (by omega)]; rfl
  · rw [ND.fnd_eq, if_neg (by simp [h]), if_neg (by omega), if_neg (by omega), if_neg (by omega)]; rfl
theorem like_nilF (N : ND) (h : N.isN = false) (hk : N.k = 6) : Like N .nilF := by
  refine ⟨fun j a b => ?_, ⟨(fun e => by cases e), (fun e => by rw [h] at e; cases e)⟩, ?_⟩
  · rw [ND.has_eq, if_neg (by simp [h]), if_neg (by omega), if_neg (by omega), if_neg (by omega), if_neg (by omega)]; rfl
  · rw [ND.fnd_eq, if_neg (by simp [h]), if_pos (by omega)]; simp [fndK, hk, ET.as, asK]
theorem like_claim (N : ND) (h : N.isN = false) (hk : N.k = 7) (p : Nat) : Like N (.claim p N.c) := by
  refine ⟨fun j a b => ?_, ⟨(fun e => by cases e), (fun e => by rw [h] at e; cases e)⟩, ?_⟩
  · rw [ND.has_eq, if_neg (by simp [h]), if_neg (by omega), if_pos hk]; rfl
  · rw [ND.fnd_eq, if_neg (by simp [h]), if_neg (by omega), if_neg (by omega), if_neg (by omega)]; rfl
/-- Of the first one. -/
def hdN : List ND → Bool
  | [] => true
  | N :: _ => N.isN
structure LikeH (l : List ND) (T : ET) : Prop where
  nil : T = .nil ↔ hdN l = true
  has : ∀ j : Nat, 1 ≤ j → j ≤ 11 → T.has j = ND.hasH l j
  fa : asK T.as = fndK (ND.fndH l)
theorem like_fault (N : ND) (h : N.isN = false) (hk : N.k = 3) (p : Nat) (T : ET) (hT : LikeH N.l T) : Like N (.fault p N.n N.s T) := by
  refine ⟨fun j a b => ?_, ⟨(fun e => by cases e), (fun e => by rw [h] at e; cases e)⟩, ?_⟩
  · rw [ND.has_eq, if_neg (by simp [h]), if_neg (by omega), if_neg (by omega), if_pos (by omega)]; exact hT.has j a b
  · rw [ND.fnd_eq, if_neg (by simp [h]), if_pos (by omega)]; simp [fndK, hk, ET.as, asK]
theorem like_one (N : ND) (h : N.isN = false) (hk : N.k = 4) (p : Nat) (T : ET) (hT : LikeH N.l T) : Like N (.one p T) := by
  refine ⟨fun j a b => ?_, ⟨(fun e => by cases e), (fun e => by rw [h] at e; cases e)⟩, ?_⟩
  · rw [ND.has_eq, if_neg (by simp [h]), if_neg (by omega), if_neg (by omega), if_pos (by omega)]; exact hT.has j a b
  · rw [ND.fnd_eq, if_neg (by simp [h]), if_neg (by omega), if_pos hk]; exact hT.fa
/-- Of all. -/
def Likes : List ND → List ET → Prop
  | [], [] => True
  | N :: l, T :: m => Like N T ∧ Likes l m
  | _, _ => False
theorem Likes.snoc {N : ND} {T : ET} (h : Like N T) : ∀ {l : List ND} {m : List ET}, Likes l m → Likes (l ++ [N]) (m ++ [T])
  | [], [], _ => ⟨h, trivial⟩
  | _ :: _, _ :: _, ⟨h1, h2⟩ => ⟨h1, h2.snoc h⟩
theorem Likes.length : ∀ {l : List ND} {m : List ET}, Likes l m → m.length = l.length
  | [], [], _ => rfl
  | _ :: _, _ :: _, ⟨_, h⟩ => by simp [h.length]
theorem Likes.has : ∀ {l : List ND} {m : List ET}, Likes l m → ∀ j : Nat, 1 ≤ j → j ≤ 11 → ET.hasL m j = ND.hasL l j
  | [], [], _, _, _, _ => rfl
  | _ :: _, _ :: _, ⟨h1, h2⟩, j, a, b => by simp only [ET.hasL, ND.hasL, h1.has j a b, h2.has j a b]
theorem Likes.as : ∀ {l : List ND} {m : List ET}, Likes l m → asK (ET.asL m) = fndK (ND.fndL l)
  | [], [], _ => rfl
  | N :: l, T :: m, ⟨h1, h2⟩ => by
    have h3 := h1.fa
    simp only [ET.asL, ND.fndL]
    cases hT : T.as with
    | none =>
      rw [hT] at h3
      cases hN : N.fnd with
      | none => exact h2.as
      | some F => rw [hN] at h3; simp only [asK, fndK] at h3; split at h3 <;> cases h3
    | some x =>
      rw [hT] at h3
      cases hN : N.fnd with
      | none => rw [hN] at h3; cases x <;> simp [asK, fndK] at h3
      | some F => rw [hN] at h3; exact h3
theorem like_many (N : ND) (h : N.isN = false) (hk : N.k = 5) (p : Nat) (m : List ET) (hT : Likes N.l m) : Like N (.many p m) := by
  refine ⟨fun j a b => ?_, ⟨(fun e => by cases e), (fun e => by rw [h] at e; cases e)⟩, ?_⟩
  · rw [ND.has_eq, if_neg (by simp [h]), if_neg (by omega), if_neg (by omega), if_neg (by omega), if_pos hk]; exact hT.has j a b
  · rw [ND.fnd_eq, if_neg (by simp [h]), if_neg (by omega), if_neg (by omega), if_pos hk]; exact hT.as

/-! ### where it lies -/
theorem foot_free (a : Nat → Addr) (base : Nat) (no : Nat → Prop) (w : World) (T : ET) (h : ∀ W', Holds a W' T) (h2 : ∀ p n s e, T.as ≠ some (.fault p n s e) := by intro p n s e h; simp [ET.as] at h) : Foot a base no w T := fun W' _ => ⟨h W', plain_no h2⟩
theorem new_at (w : World) (cs : Array Value) (t : TypeId) : (w.alloc (.cells cs t)).heap[w.heap.size]? = some (.cells cs t (0, 0)) := Array.getElem?_push_size
theorem agree_new {base : Nat} {no : Nat → Prop} {w W' : World} {cs : Array Value} {t : TypeId} (h : Agree base no (w.alloc (.cells cs t)) W') (hb : base ≤ w.heap.size) (hn : ¬ no w.heap.size) : W'.heap[w.heap.size]? = some (.cells cs t (0, 0)) :=
  (h w.heap.size hb (by simp) hn).trans (new_at w cs t)
theorem agree_old {base : Nat} {no : Nat → Prop} {w W' : World} {o : Obj} (h : Agree base no (w.alloc o) W') : Agree base no w W' := fun b h1 h2 h3 => (h b h1 (by simp; omega) h3).trans (Below.heap_alloc w o b h2)
theorem cell_new {W' : World} {g : Nat} {cs : Array Value} {t : TypeId} (h : W'.heap[g]? = some (.cells cs t (0, 0))) (j : Nat) : W'.cell? ⟨g, j, none⟩ = cs[j]? := cell_of_row W' g j cs t (0, 0) h
theorem foot_fault {a : Nat → Addr} {base : Nat} {w : World} {T : ET} (h : Foot a base (fun _ => False) w T) (hb : base ≤ w.heap.size) (n : Int) (s : ByteArray) :
    Foot a base (fun _ => False) (w.alloc (.cells #[T.val a, .int .i64 n, .string s] 45)) (.fault w.heap.size n s T) := fun W' hA => by
  have hn := agree_new hA hb id
  exact ⟨⟨by rw [cell_new hn]; rfl, by rw [cell_new hn]; rfl, by rw [cell_new hn]; rfl, (h W' (agree_old hA)).1⟩, fun p k r e he => by simp only [ET.as, Option.some.injEq, ET.fault.injEq] at he; obtain ⟨rfl, _⟩ := he; exact ⟨_, hn⟩⟩
theorem foot_one {a : Nat → Addr} {base : Nat} {w : World} {T : ET} (h : Foot a base (fun _ => False) w T) (hb : base ≤ w.heap.size) :
    Foot a base (fun _ => False) (w.alloc (.cells #[T.val a] 69)) (.one w.heap.size T) := fun W' hA => by
  have hn := agree_new hA hb id
  exact ⟨⟨by rw [cell_new hn]; rfl, (h W' (agree_old hA)).1⟩, (h W' (agree_old hA)).2⟩
theorem foot_claim {a : Nat → Addr} {base : Nat} {w : World} (hb : base ≤ w.heap.size) (c : Int) : Foot a base (fun _ => False) (w.alloc (.cells #[.int .i64 c] 75)) (.claim w.heap.size c) := fun W' hA => by
  have hn := agree_new hA hb id
  refine ⟨?_, plain_no (by intro p n s e h; simp [ET.as] at h)⟩
  show W'.cell? _ = _
  rw [cell_new hn]; rfl
theorem foot_other {a : Nat → Addr} {base : Nat} {w : World} (hE : Errs a w) (hb : base ≤ w.heap.size) (s : ByteArray) : Foot a base (fun _ => False) (w.alloc (.cells #[.string s] 96)) (.other ⟨w.heap.size, 0, none⟩) := fun W' hA => by
  have hn := agree_new hA hb id
  refine ⟨⟨⟨_, _, hn⟩, fun k h0 h1 e => ?_⟩, plain_no (by intro p n s e h; simp [ET.as] at h)⟩
  obtain ⟨c, t, q⟩ := hE.b k h0 h1
  rw [← e] at q
  simp at q

theorem enew_any (a : Nat → Addr) (s : ByteArray) (w : World) (hE : Errs a w) : Calls Tryd.prog 32 #[.string s] w fun e w' => ∃ ad, e = .returned (.iface 94 (.pointer (some ad))) ∧ Hid (Foot a w.heap.size (fun _ => False) w' (.other ad)) ∧ Below w.heap.size w w' := by
  have HF := Lib.hid (foot_other (base := w.heap.size) hE (Nat.le_refl _) s)
  clear hE
  go_enter Tryd.func32, Tryd.ntmps32
  go_wp2
  go_ret
  exact ⟨_, rfl, HF, (Below.refl _ _).alloc (Nat.le_refl _) _⟩
end Go.Proofs.YtfjgjhicinaolaaDoor
