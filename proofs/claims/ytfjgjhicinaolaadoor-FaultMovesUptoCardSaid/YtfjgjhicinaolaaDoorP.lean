/- The steps of a text, told again: the walk. -/
import Derived.Test.YtfjgjhicinaolaaDoorJ
import Derived.Test.YtfjgjhicinaolaaDoorPars
import Derived.Laws.OwnMore
import Derived.StillTailTactics
import Derived.IntWalk
namespace Go.Proofs.YtfjgjhicinaolaaDoor
open Go.RowKit Go.Extern.Stop Go.Stop Go.Extern
set_option maxRecDepth 100000
set_option linter.unusedVariables false
set_option linter.unusedSimpArgs false
set_option linter.unnecessarySimpa false

def at1 (s : ByteArray) (k : Nat) : Int := if h : k < s.size then (s[k].toNat : Int) else 0
theorem idx_run (s : ByteArray) (k : Nat) (h : k < s.size) (W : World) : (Instr.index 9 (.string s) (.int .i64 (k : Int))).run Tryd.prog W = .ok (.int .u8 (at1 s k)) W := by
  rw [run_index_string W 9 s .i64 k Tryd.underlying9]
  unfold at1
  simp [h]
theorem at1_list (s : ByteArray) (k : Nat) (h : k < s.size) : s.data.toList.drop k = s[k] :: s.data.toList.drop (k + 1) := by
  rw [List.drop_eq_getElem_cons (by simpa using h)]; rfl
theorem at1_eq (s : ByteArray) (k : Nat) (h : k < s.size) (b : UInt8) (e : s[k] = b) : at1 s k = (b.toNat : Int) := by unfold at1; rw [dif_pos h, e]
theorem slice_run (s : ByteArray) (a : Nat) (h : a + 1 ≤ s.size) (W : World) : (Instr.slice 9 (.string s) (some (.int .i64 (a : Int))) (some (.int .i64 ((a : Int) + 1))) none).run Tryd.prog W = .ok (.string (s.extract a (a + 1))) W := by
  have e1 : ((a : Int) + 1).toNat = a + 1 := by omega
  have e2 : (0 : Int) ≤ (a : Int) + 1 := by omega
  have e3 : (a : Int) + 1 ≤ (s.size : Int) := by omega
  have e4 : (a : Int) ≤ (a : Int) + 1 := by omega
  have e5 : (a : Int) ≤ ((a + 1 : Nat) : Int) := by omega
  have e6 := run_sliceBound (P := Tryd.prog) W .i64 (a : Int) (a + 1) .sliceB (by omega) e5
  simp [Instr.slice, run_underlying Tryd.underlying9, Instr.sliceBounds, run_sliceBound, sliced, e1, e2, e3, e4, e5, e6]
theorem extract_one (s : ByteArray) (a : Nat) (h : a < s.size) : s.extract a (a + 1) = bs [s[a]] := by
  apply ByteArray.ext
  rw [ByteArray.data_extract]
  apply Array.ext'
  rw [Array.toList_extract, List.extract_eq_take_drop, at1_list s a h]
  simp [bs]
def strs (l : List (List UInt8)) : List Value := l.map fun x => .string (bs x)
theorem strs_length (l : List (List UInt8)) : (strs l).length = l.length := by simp [strs]
theorem own_shape {w : World} {base n : Nat} {e : TypeId} {v : Value} {xs : List Value} (h : w.ownsRow base e 1 v (n + 1) xs) : ∃ g cap, v = .slice (some ⟨g, 0, none⟩) (n + 1) cap ∧ base ≤ g ∧ n + 1 ≤ cap ∧ cap ≤ 9223372036854775807 ∧ g < w.heap.size := by
  rcases h.2 with ⟨_, h0⟩ | ⟨g, cap, cur, rfl, hb, hh, hc, hm, _⟩
  · omega
  · exact ⟨g, cap, rfl, hb, hc, hm, (Array.getElem?_eq_some_iff.1 hh).1⟩
theorem info9 : (Tryd.prog.info? 9).map (fun i => (i.zero, i.size, i.bytes)) = some (some (.string ⟨#[]⟩), 1, 16) := by kernel_rfl
theorem below_grown {B : Nat} {w W W' : World} {row : Option Nat} (h : Below B w W) (hB : B ≤ W.heap.size) (hg : W.grownBy W' row) (hr : ∀ k, row = some k → B ≤ k) : Below B w W' := h.grown hg hB hr

theorem strs_at (ini : List (List UInt8)) (cur : List UInt8) : (strs (ini ++ [cur]))[ini.length]? = some (.string (bs cur)) := by simp [strs]
theorem strs_set (ini : List (List UInt8)) (cur x : List UInt8) : (strs (ini ++ [cur])).set ini.length (.string (bs x)) = strs (ini ++ [x]) := by simp [strs]
/-- What is known ahead of a round. -/
def StepsI (s : ByteArray) (R : List (List UInt8)) (w : World) (c n0 g cap : Nat) (W : World) : Prop :=
  ∃ ini cur, n0 = ini.length ∧ w.heap.size ≤ g ∧ g < W.heap.size ∧ W.ownsRow w.heap.size 9 1 (.slice (some ⟨g, 0, none⟩) (n0 + 1) cap) (n0 + 1) (strs (ini ++ [cur])) ∧ Esc.pars (s.data.toList.drop c) ini cur = some R ∧ n0 + 1 ≤ c ∧ (bs cur).size ≤ c

theorem StepsI.put {s : ByteArray} {R : List (List UInt8)} {w W : World} {c' n0 g cap : Nat} {ini : List (List UInt8)} {cur : List UInt8} (hn : n0 = ini.length) (hg1 : w.heap.size ≤ g) (hg2 : g < W.heap.size)
    (hown : W.ownsRow w.heap.size 9 1 (.slice (some ⟨g, 0, none⟩) (n0 + 1) cap) (n0 + 1) (strs (ini ++ [cur]))) (x : UInt8) (hp : Esc.pars (s.data.toList.drop c') ini (cur ++ [x]) = some R) (hl : n0 + 1 ≤ c') (hs : (bs cur).size + 1 ≤ c') :
    StepsI s R w c' n0 g cap (W.setCell ⟨g, n0, none⟩ (.string (bs cur ++ ⟨#[x]⟩))) := by
  have e : bs cur ++ ⟨#[x]⟩ = bs (cur ++ [x]) := bs_append cur [x]
  refine ⟨ini, cur ++ [x], hn, hg1, by simpa using hg2, ?_, hp, hl, by rw [bs_size] at hs ⊢; simp; omega⟩
  have := (hown.stored n0 (.string (bs (cur ++ [x])))).1
  rw [e]
  subst hn
  rw [strs_set] at this
  exact this
theorem steps_any (s : ByteArray) (r : List UInt8) (R : List (List UInt8)) (w : World) (hs : s.data.toList = 47 :: r) (hR : Esc.pars r [] [] = some R) (hz : s.size ≤ 1073741824) :
    Calls Tryd.prog 25 #[.string s] w fun e w' => ∃ n0 g cap, e = .returned (.tuple #[.slice (some ⟨g, 0, none⟩) (n0 + 1) cap, .bool true]) ∧ Hid (n0 + 1 = R.length ∧ w'.ownsRow w.heap.size 9 1 (.slice (some ⟨g, 0, none⟩) (n0 + 1) cap) (n0 + 1) (strs R)) ∧ Below w.heap.size w w' := by
  obtain ⟨i0, hi, hz0, hz1, hz2⟩ := info_parts info9
  have HS := Lib.hid hs
  have HR := Lib.hid hR
  have hpos : 0 < s.size := by rw [← size_list, hs]; simp
  clear hs hR
  go_enter Tryd.func25, Tryd.ntmps25
  go_wp2
  go_loopw [4, 5] (fun v i W => ∃ c : Nat, i = .int .i64 c ∧ c ≤ s.size ∧ Hid (Below w.heap.size w W) ∧ ((Hid (c = 0) ∧ v = .slice none 0 0) ∨ ∃ n0 g cap, v = .slice (some ⟨g, 0, none⟩) (n0 + 1) cap ∧ Hid (StepsI s R w c n0 g cap W))) (fun _ i _ => s.size - (intOf i).toNat)
  case atStart => exact ⟨0, rfl, by omega, Lib.hid (Below.refl _ _), .inl ⟨Lib.hid rfl, rfl⟩⟩
  case round =>
    obtain ⟨c, rfl, hc, HB, hcase⟩ := hrel
    rcases hcase with ⟨H0, rfl⟩ | ⟨n0, g, cap, rfl, HI⟩
    · have e0 : c = 0 := H0.out
      subst e0
      have hb0 : s[0] = 47 := by
        have := at1_list s 0 hpos
        rw [List.drop_zero, HS.out] at this
        injection this with h1 h2
        exact h1.symm
      have hr1 : s.data.toList.drop 1 = r := by rw [HS.out]; rfl
      have hidx : ∀ W, (Instr.index 9 (.string s) (.int .i64 0)).run Tryd.prog W = .ok (.int .u8 47) W := fun W => by
        have := idx_run s 0 hpos W
        rw [at1_eq s 0 hpos 47 hb0] at this
        exact this
      have HR1 := Lib.hid hr1
      have hpi : (0 : Int) < s.size := by omega
      clear hb0 hr1 H0
      go_wp2_with (at_builtin; refine wpList_append_own _ rfl _ _ 53 rfl w.heap.size 9 i0 (.string ⟨#[]⟩) 1 16 Tryd.underlying53 hi hz0 hz1 hz2 rfl (by decide) _ 0 [] rfl ⟨by simp, .inl ⟨rfl, rfl⟩⟩ ⟨wr.heap.size, 0, none⟩ 1 1 [.string ⟨#[]⟩] rfl rfl ?c1 ?c2 ?c3 ?c4 ?c5 ?_)
      case c1 =>
        intro j u hj
        match j, hj with
        | 0, hj => simp at hj; subst hj; simp [Addr.add]
        | j + 1, hj => simp at hj
      case c2 => intro u hu; simp at hu; subst hu; rfl
      case c3 => decide
      case c4 => decide
      case c5 => have := HB.out.size; simp; omega
      intro v' w1 hown hgr _
      obtain ⟨g, cap, rfl, hg1, hg2, hg3, hg4⟩ := own_shape (n := 0) hown
      have HI : Hid (StepsI s R w 1 0 g cap w1) := Lib.hid ⟨[], [], rfl, hg1, hg4, hown, by rw [HR1.out]; exact HR.out, by omega, by decide⟩
      have HB1 : Hid (Below w.heap.size w w1) := Lib.hid (below_grown (HB.out.alloc HB.out.size _) (by have := HB.out.size; simp; omega) hgr (fun k hk => by simp [Value.ownBlock] at hk))
      clear hown hgr hg1 hg2 hg3 hg4
      go_wp2
      go_roundw
      case rel => exact ⟨1, rfl, by omega, HB1, .inr ⟨0, g, cap, rfl, HI⟩⟩
      case measure => simp [intOf]; omega
    · obtain ⟨ini, cur, hn, hg1, hg2, hown, hp, hlc, hcs⟩ := HI.out
      by_cases hlt : c < s.size
      · have hdr := at1_list s c hlt
        rw [hdr] at hp
        have hlti : (c : Int) < s.size := by omega
        have hown0 := hown
        rcases Esc.pars_ahead _ _ _ _ _ hp with ⟨e1, hp2⟩ | ⟨e0, e1, c2, r', e2, hp2⟩ | ⟨e1, e2, hp2⟩
        · -- another step
          have hidx : ∀ W, (Instr.index 9 (.string s) (.int .i64 (c : Int))).run Tryd.prog W = .ok (.int .u8 47) W := fun W => by
            have := idx_run s c hlt W
            rw [at1_eq s c hlt 47 e1] at this
            exact this
          have HN : Hid (n0 = ini.length) := Lib.hid hn
          have HP := Lib.hid hp2
          have HG : Hid (n0 + 1 ≤ c ∧ c < s.size) := Lib.hid ⟨hlc, hlt⟩
          have hn64 : n0 + 1 ≤ 1073741824 := by omega
          clear hdr hp e1 hp2 HI hn hcs hown0
          go_wp2_with (at_builtin; refine wpList_append_own _ rfl _ _ 53 rfl w.heap.size 9 i0 (.string ⟨#[]⟩) 1 16 Tryd.underlying53 hi hz0 hz1 hz2 rfl (by decide) _ (n0 + 1) _ rfl (hown.alloc _) ⟨wr.heap.size, 0, none⟩ 1 1 [.string ⟨#[]⟩] rfl rfl ?d1 ?d2 ?d3 ?d4 ?d5 ?_)
          case d1 =>
            intro j u hj
            match j, hj with
            | 0, hj => simp at hj; subst hj; simp [Addr.add]
            | j + 1, hj => simp at hj
          case d2 => intro u hu; simp at hu; subst hu; rfl
          case d3 => simp only [maxLen]; omega
          case d4 => omega
          case d5 => have := HB.out.size; simp; omega
          intro v' w1 hown1 hgr _
          obtain ⟨g1, cap1, rfl, hg3, hg4, hg5, hg6⟩ := own_shape hown1
          have HI1 : Hid (StepsI s R w (c + 1) (n0 + 1) g1 cap1 w1) := Lib.hid ⟨ini ++ [cur], [], by rw [HN.out]; simp, hg3, hg6, by
            have e : strs (ini ++ [cur] ++ [[]]) = strs (ini ++ [cur]) ++ [.string ⟨#[]⟩] := by simp [strs, bs]
            rw [e]; exact hown1, HP.out, by have := HG.out.1; omega, Nat.zero_le _⟩
          have HB1 : Hid (Below w.heap.size w w1) := Lib.hid (below_grown (HB.out.alloc HB.out.size _) (by have := HB.out.size; simp; omega) hgr (fun k hk => by simp [Value.ownBlock] at hk; omega))
          clear hown hown1 hgr hg1 hg2 hg3 hg4 hg5 hg6
          go_wp2
          go_roundw
          case rel => exact ⟨c + 1, by go_num, by have := HG.out.2; omega, HB1, .inr ⟨n0 + 1, g1, cap1, rfl, HI1⟩⟩
          case measure => simp [intOf]; omega
        · obtain ⟨hq0, hq1⟩ : c + 1 < s.size ∧ (∀ h : c + 1 < s.size, s[c + 1] = c2 ∧ s.data.toList.drop (c + 1 + 1) = r') := by
            have hl : (s.data.toList.drop (c + 1)).length = s.size - (c + 1) := by rw [List.length_drop, size_list]
            rw [e2] at hl
            simp only [List.length_cons] at hl
            refine ⟨by omega, fun h => ?_⟩
            have h2 := at1_list s (c + 1) h
            rw [e2] at h2
            injection h2 with h3 h4
            exact ⟨h3.symm, h4.symm⟩
          obtain ⟨hq2, hq3⟩ := hq1 hq0
          have hidx : ∀ W, (Instr.index 9 (.string s) (.int .i64 (c : Int))).run Tryd.prog W = .ok (.int .u8 126) W := fun W => by
            have := idx_run s c hlt W
            rw [at1_eq s c hlt 126 e1] at this
            exact this
          have hcell : wr.cell? ⟨g, n0, none⟩ = some (.string (bs cur)) := by rw [hown.cellAt n0 (by omega), hn]; exact strs_at ini cur
          have hfz := hown.frozenAt n0
          have hcz : (bs cur).size + 1 ≤ 9223372036854775807 := by omega
          have hn64 : n0 + 1 ≤ 1073741824 := by omega
          have HN : Hid (n0 = ini.length) := Lib.hid hn
          have hlt2 : (c : Int) + 1 < s.size := by omega
          have HG : Hid (n0 + 1 ≤ c ∧ c + 1 < s.size ∧ (bs cur).size ≤ c) := Lib.hid ⟨hlc, hq0, hcs⟩
          have HOWN := Lib.hid hown
          have HG1 : Hid (w.heap.size ≤ g ∧ g < wr.heap.size) := Lib.hid ⟨hg1, hg2⟩
          have hne : ((c : Int) + 1 == s.size) = false := by simp; omega
          rcases hp2 with ⟨e3, hp3⟩ | ⟨e3, hp3⟩
          · have hidx2 : ∀ W, (Instr.index 9 (.string s) (.int .i64 ((c : Int) + 1))).run Tryd.prog W = .ok (.int .u8 48) W := fun W => by
              have := idx_run s (c + 1) hq0 W
              rw [at1_eq s (c + 1) hq0 48 (hq2.trans e3)] at this
              exact this
            have HI1 : Hid (StepsI s R w (c + 1 + 1) n0 g cap (wr.setCell ⟨g, n0, none⟩ (.string (bs cur ++ ⟨#[126]⟩)))) := Lib.hid (StepsI.put HN.out HG1.out.1 HG1.out.2 HOWN.out 126 (by rw [hq3]; exact hp3) (by have := HG.out.1; omega) (by have := HG.out.2.2; omega))
            have HB1 : Hid (Below w.heap.size w (wr.setCell ⟨g, n0, none⟩ (.string (bs cur ++ ⟨#[126]⟩)))) := Lib.hid (HB.out.setCell (p := ⟨g, n0, none⟩) HG1.out.1 _)
            clear hdr hp e0 e1 e2 e3 hp3 HI hn hcs hown0 hown hq0 hq2 hq3 hq1 hlc hlt hg1 hg2
            generalize bs cur = q at hcell hcz HI1 HB1 ⊢
            go_wp2
            go_roundw
            case rel => exact ⟨c + 1 + 1, by go_num, by have := HG.out.2.1; omega, HB1, .inr ⟨n0, g, cap, rfl, HI1⟩⟩
            case measure => have := HG.out.2.1; simp [intOf]; omega
          · have hidx2 : ∀ W, (Instr.index 9 (.string s) (.int .i64 ((c : Int) + 1))).run Tryd.prog W = .ok (.int .u8 49) W := fun W => by
              have := idx_run s (c + 1) hq0 W
              rw [at1_eq s (c + 1) hq0 49 (hq2.trans e3)] at this
              exact this
            have HI1 : Hid (StepsI s R w (c + 1 + 1) n0 g cap (wr.setCell ⟨g, n0, none⟩ (.string (bs cur ++ ⟨#[47]⟩)))) := Lib.hid (StepsI.put HN.out HG1.out.1 HG1.out.2 HOWN.out 47 (by rw [hq3]; exact hp3) (by have := HG.out.1; omega) (by have := HG.out.2.2; omega))
            have HB1 : Hid (Below w.heap.size w (wr.setCell ⟨g, n0, none⟩ (.string (bs cur ++ ⟨#[47]⟩)))) := Lib.hid (HB.out.setCell (p := ⟨g, n0, none⟩) HG1.out.1 _)
            clear hdr hp e0 e1 e2 e3 hp3 HI hn hcs hown0 hown hq0 hq2 hq3 hq1 hlc hlt hg1 hg2
            generalize bs cur = q at hcell hcz HI1 HB1 ⊢
            go_wp2
            go_roundw
            case rel => exact ⟨c + 1 + 1, by go_num, by have := HG.out.2.1; omega, HB1, .inr ⟨n0, g, cap, rfl, HI1⟩⟩
            case measure => have := HG.out.2.1; simp [intOf]; omega
        · obtain ⟨b, hb⟩ : ∃ b, s[c] = b := ⟨_, rfl⟩
          rw [hb] at e1 e2 hp2
          have hidx : ∀ W, (Instr.index 9 (.string s) (.int .i64 (c : Int))).run Tryd.prog W = .ok (.int .u8 (b.toNat : Int)) W := fun W => by
            have := idx_run s c hlt W
            rw [at1_eq s c hlt b hb] at this
            exact this
          have t1 : ((b.toNat : Int) == 47) = false := by simp; intro h; exact e1 (UInt8.toNat_inj.1 (by show b.toNat = 47; omega))
          have t2 : ((b.toNat : Int) == 126) = false := by simp; intro h; exact e2 (UInt8.toNat_inj.1 (by show b.toNat = 126; omega))
          have hsl := slice_run s c (by omega)
          rw [extract_one s c hlt, hb] at hsl
          have hcell : wr.cell? ⟨g, n0, none⟩ = some (.string (bs cur)) := by rw [hown.cellAt n0 (by omega), hn]; exact strs_at ini cur
          have hfz := hown.frozenAt n0
          have hcz : (bs cur).size + 1 ≤ 9223372036854775807 := by omega
          have hn64 : n0 + 1 ≤ 1073741824 := by omega
          have hone : (bs [b]).size = 1 := bs_size [b]
          have HN : Hid (n0 = ini.length) := Lib.hid hn
          have HG : Hid (n0 + 1 ≤ c ∧ c < s.size ∧ (bs cur).size ≤ c) := Lib.hid ⟨hlc, hlt, hcs⟩
          have HI1 : Hid (StepsI s R w (c + 1) n0 g cap (wr.setCell ⟨g, n0, none⟩ (.string (bs cur ++ bs [b])))) := Lib.hid (StepsI.put hn hg1 hg2 hown b hp2 (by omega) (by omega))
          have HB1 : Hid (Below w.heap.size w (wr.setCell ⟨g, n0, none⟩ (.string (bs cur ++ bs [b])))) := Lib.hid (HB.out.setCell (p := ⟨g, n0, none⟩) hg1 _)
          have hb0 : 0 ≤ (b.toNat : Int) := by omega
          have hb1 : (b.toNat : Int) ≤ 255 := by have := b.toNat_lt; omega
          clear hdr hp e1 e2 hp2 HI hn hcs hown0 hown hlc hlt hg1 hg2 hb
          generalize bs cur = q at hcell hcz HI1 HB1 ⊢
          generalize bs [b] = bb at hone hsl HI1 HB1 ⊢
          generalize (b.toNat : Int) = bi at hidx t1 t2 hb0 hb1 ⊢
          go_upto_region 5 with fail
          have z1 : IntKind.i64.wrap (n0 : Int) = n0 := IntWalk.i64_in _ (by omega)
          have z2 : IntKind.i64.wrap ((c : Int) + 1) = c + 1 := IntWalk.i64_in _ (by omega)
          have z3 : 0 ≤ (n0 : Int) := by omega
          have z4 : (n0 : Int) < n0 + 1 := by omega
          have z5 : ¬ 9223372036854775807 < q.size + 1 := by omega
          go_still_tail 17, (by kernel_rfl)
          change wpList _ _ _ _ _ wr.drew
          have hcell2 : wr.drew.cell? ⟨g, n0, none⟩ = some (.string q) := hcell
          have hfz2 : wr.drew.frozen? ⟨g, n0, none⟩ = false := hfz
          have HI2 : Hid (StepsI s R w (c + 1) n0 g cap (wr.drew.setCell ⟨g, n0, none⟩ (.string (q ++ bb)))) := Lib.hid (HI1.out)
          have HB2 : Hid (Below w.heap.size w (wr.drew.setCell ⟨g, n0, none⟩ (.string (q ++ bb)))) := Lib.hid (Below.drew HB1.out)
          clear HI1 HB1 hcell hfz z1 z2 z3 z4 z5
          generalize wr.drew = w2 at hcell2 hfz2 HI2 HB2 ⊢
          go_wp2
          go_roundw
          case rel => exact ⟨c + 1, by go_num, by have := HG.out.2.1; omega, HB2, .inr ⟨n0, g, cap, rfl, HI2⟩⟩
          case measure => have := HG.out.2.1; simp [intOf]; omega
      · have e0 : c = s.size := by omega
        subst e0
        have e1 : s.data.toList.drop s.size = [] := List.drop_of_length_le (by rw [size_list]; exact Nat.le_refl _)
        rw [e1] at hp
        have hR' : R = ini ++ [cur] := by simp [Esc.pars] at hp; exact hp.symm
        have HF : Hid (n0 + 1 = R.length ∧ wr.ownsRow w.heap.size 9 1 (.slice (some ⟨g, 0, none⟩) (n0 + 1) cap) (n0 + 1) (strs R)) := Lib.hid ⟨by rw [hR', hn]; simp, by rw [hR']; exact hown⟩
        clear HI hn hg1 hg2 hown hp e1 hR' hlc hcs
        go_wp2
        go_ret2
        exact ⟨n0, g, cap, rfl, HF, HB.out⟩
end Go.Proofs.YtfjgjhicinaolaaDoor
