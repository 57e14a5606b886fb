/- The document's FromUnits. -/
import Derived.Test.YtolnnkalgioobaaGreatDoorTb
namespace Go.Proofs.YtolnnkalgioobaaGreatDoor
open Go.RowKit
set_option maxRecDepth 100000
set_option linter.unusedVariables false
set_option linter.unusedSimpArgs false
set_option linter.unnecessarySimpa false

theorem high_any (x : Int) (w : World) (b : Bool) (hb : b = decide (55296 ≤ x ∧ x < 56320)) : Calls Tryz.prog 81 #[.int .u16 x] w fun e w' => e = .returned (.bool b) ∧ w = w' := by
  by_cases h1 : 55296 ≤ x
  · by_cases h2 : x < 56320
    · (have hb2 : b = true := (by rw [hb]; simp [h1, h2]); subst hb2; clear hb)
      go_enter Tryz.func81, Tryz.ntmps81
      go_wp2
      go_ret
      exact ⟨rfl, rfl⟩
    · (have hb2 : b = false := (by rw [hb]; simp [h1, h2]); subst hb2; clear hb)
      have d2 : decide (x < 56320) = false := by simp [h2]
      go_enter Tryz.func81, Tryz.ntmps81
      go_wp2
      go_ret
      exact ⟨rfl, rfl⟩
  · (have hb2 : b = false := (by rw [hb]; simp [h1]); subst hb2; clear hb)
    have d1 : decide (55296 ≤ x) = false := by simp [h1]
    go_enter Tryz.func81, Tryz.ntmps81
    go_wp2
    go_ret
    exact ⟨rfl, rfl⟩
theorem low_any (x : Int) (w : World) (b : Bool) (hb : b = decide (56320 ≤ x ∧ x < 57344)) : Calls Tryz.prog 82 #[.int .u16 x] w fun e w' => e = .returned (.bool b) ∧ w = w' := by
  by_cases h1 : 56320 ≤ x
  · by_cases h2 : x < 57344
    · (have hb2 : b = true := (by rw [hb]; simp [h1, h2]); subst hb2; clear hb)
      go_enter Tryz.func82, Tryz.ntmps82
      go_wp2
      go_ret
      exact ⟨rfl, rfl⟩
    · (have hb2 : b = false := (by rw [hb]; simp [h1, h2]); subst hb2; clear hb)
      have d2 : decide (x < 57344) = false := by simp [h2]
      go_enter Tryz.func82, Tryz.ntmps82
      go_wp2
      go_ret
      exact ⟨rfl, rfl⟩
  · (have hb2 : b = false := (by rw [hb]; simp [h1]); subst hb2; clear hb)
    have d1 : decide (56320 ≤ x) = false := by simp [h1]
    go_enter Tryz.func82, Tryz.ntmps82
    go_wp2
    go_ret
    exact ⟨rfl, rfl⟩
set_option maxHeartbeats 1000000 in
theorem refFromUnits_any (A : Option Addr) (n c : Nat) (u : List Int) (w : World) (hl : u.length = n) (hr : RK w .u16 A u) (hn : n ≤ 1048576) (hu : ∀ x ∈ u, 0 ≤ x ∧ x ≤ 65535) :
    Calls Tryz.prog 19 #[.slice A n c] w (FuPost (fuP 0 u) w) := by
  obtain ⟨i0, hi, hz0, hz1, hz2⟩ := info_parts info5b
  have HL := Lib.hid hl
  have HR := Lib.hid hr
  have HU := Lib.hid hu
  obtain ⟨R, hR⟩ : ∃ R, fuP 0 u = R := ⟨_, rfl⟩
  rw [hR]
  have HRR := Lib.hid hR
  clear hl hr hu hR
  go_enter Tryz.func19, Tryz.ntmps19
  go_wp2
  go_loopw [4, 5] (fun v i W => ∃ (u1 : Value) (j : Nat) (done : List Int), u1 = v ∧ i = .int .i64 j ∧ j ≤ n ∧ done.length ≤ j ∧ Hid (Own W w.heap.size 5 .u8 u1 (textL done)) ∧ Hid (R = (fuP 0 (u.drop j)).map (done ++ ·)) ∧ Below w.heap.size w W) (fun _ i _ => n - (intOf i).toNat)
  case atStart => exact ⟨_, 0, [], rfl, rfl, by omega, by simp, Own.nil _ _ _ _, by show _ = _; rw [List.drop_zero, HRR.out]; simp, Below.refl _ _⟩
  case round =>
    obtain ⟨v, j, done, rfl, rfl, hj, hdl, hO, hF, hB⟩ := hrel
    have htl := textL_len done
    by_cases hlt : j < n
    · have hjl : j < u.length := by rw [HL.out]; exact hlt
      rcases HR.out.below hB with h0 | ⟨b, off, rfl, hc⟩
      · rw [h0] at hjl; simp at hjl
      have e1 := hc j hjl
      have hx := HU.out (u.getD j 0) (by rw [List.getD_eq_getElem?_getD, List.getElem?_eq_getElem hjl]; exact List.getElem_mem hjl)
      have hdr : u.drop j = u.getD j 0 :: u.drop (j + 1) := by rw [List.drop_eq_getElem_cons hjl]; simp [List.getD_eq_getElem?_getD, List.getElem?_eq_getElem hjl]
      have hF2 : Hid (R = (fuP 0 (u.getD j 0 :: u.drop (j + 1))).map (done ++ ·)) := Lib.hid (by rw [← hdr]; exact hF.out)
      have hnext : Hid (∀ h2 : j + 1 < n, wr.cell? ⟨b, off + (j + 1), none⟩ = some (.int .u16 (u.getD (j + 1) 0)) ∧ (0 ≤ u.getD (j + 1) 0 ∧ u.getD (j + 1) 0 ≤ 65535) ∧ u.drop (j + 1) = u.getD (j + 1) 0 :: u.drop (j + 2)) := Lib.hid fun h2 => by
        have hjl2 : j + 1 < u.length := by rw [HL.out]; exact h2
        exact ⟨hc (j + 1) hjl2, HU.out (u.getD (j + 1) 0) (by rw [List.getD_eq_getElem?_getD, List.getElem?_eq_getElem hjl2]; exact List.getElem_mem hjl2), by rw [List.drop_eq_getElem_cons hjl2]; simp [List.getD_eq_getElem?_getD, List.getElem?_eq_getElem hjl2]⟩
      have hlast : Hid (j + 1 = n → u.drop (j + 1) = []) := Lib.hid fun h => List.drop_of_length_le (by rw [HL.out]; omega)
      generalize u.getD j 0 = x at e1 hx hF2
      obtain ⟨x0, x1⟩ := hx
      clear hc hjl hdr hF
      by_cases hhi : 55296 ≤ x ∧ x < 56320
      · have ch := fun W => high_any x W true (by simp [hhi])
        by_cases hj1 : j + 1 < n
        · obtain ⟨e2, ⟨y0, y1⟩, hd2⟩ := hnext.out hj1
          rw [hd2] at hF2
          generalize u.getD (j + 1) 0 = y at e2 y0 y1 hF2
          by_cases hlo : 56320 ≤ y ∧ y < 57344
          · have cl := fun W => low_any y W true (by simp [hlo])
            obtain ⟨h1, h2⟩ := hhi
            obtain ⟨l1, l2⟩ := hlo
            obtain ⟨q, hq⟩ : ∃ q, 65536 + (x - 55296) * 1024 + y - 56320 = q := ⟨_, rfl⟩
            have hq0 : 0 ≤ q ∧ q ≤ 1114111 := by omega
            have hF3 : Hid (R = (fuP 0 (u.drop (j + 2))).map ((done ++ [q]) ++ ·)) := Lib.hid (by
              rw [hF2.out, fuP, if_neg (by omega), if_neg (by omega), if_pos ⟨h1, h2⟩, fuP, if_pos ⟨l1, by omega⟩, if_pos (by omega), hq]
              rcases fuP 0 (u.drop (j + 2)) with _ | m <;> simp)
            have cen := fun W => enc_any q W hq0.1 (by omega)
            have hel := encL_len q
            obtain ⟨ys, hys⟩ : ∃ ys, encL q = ys := ⟨_, rfl⟩
            rw [hys] at cen hel
            have HYS := Lib.hid hys
            have hql : (65536 : Int) + (x - 55296) * 1024 + y - 56320 = q := hq
            clear hys hF2 hd2 hq
            have e3 : wr.cell? ⟨b, off + (j + 1), none⟩ = some (.int .u16 y) := e2
            go_upto_region 7 with (first
              | (go_at_call 81; refine (ch _).mono ?_; rintro e w1 ⟨rfl, rfl⟩)
              | (go_at_call 82; refine (cl _).mono ?_; rintro e w1 ⟨rfl, rfl⟩))
            have hw1 : IntKind.i64.wrap ((j : Int) + 1) = (j : Int) + 1 := IntWalk.i64_in _ (by omega)
            have hw2 : 0 ≤ (j : Int) + 1 := by omega
            have hw3 : ((j : Int) + 1).toNat = j + 1 := by omega
            have hw4 : (j : Int) + 1 < (n : Int) := by omega
            have k1 : IntKind.i64.wrap x = x := IntWalk.i64_in _ (by omega)
            have k2 : IntKind.i64.wrap (x - 55296) = x - 55296 := IntWalk.i64_in _ (by omega)
            have k3 : IntKind.i64.wrap ((x - 55296) * 1024) = (x - 55296) * 1024 := IntWalk.i64_in _ (by omega)
            have k4 : IntKind.i64.wrap (65536 + (x - 55296) * 1024) = 65536 + (x - 55296) * 1024 := IntWalk.i64_in _ (by omega)
            have k5 : IntKind.i64.wrap y = y := IntWalk.i64_in _ (by omega)
            have k6 : IntKind.i64.wrap (65536 + (x - 55296) * 1024 + y) = 65536 + (x - 55296) * 1024 + y := IntWalk.i64_in _ (by omega)
            have k7 : IntKind.i64.wrap q = q := IntWalk.i64_in _ (by omega)
            go_region_law (first | (refine step_append_any _ rfl (.tmp 41) (.tmp 58) 67 rfl w.heap.size 5 i0 (.int .u8 0) 1 1 Tryz.underlying67 hi hz0 hz1 hz2 rfl (by decide) v (textL done).length (numsK .u8 (textL done)) (by simp [Act.eval, Act.put]) hOk.out w2.heap.size (some ⟨g, 0, none⟩) ys.length ys.length (numsK .u8 ys) (by simp [Act.eval, Act.put]) hlr.out.reads (nums_one _ _) (by simp only [maxLen]; omega) (by omega) (by have := hB.size; have := hbk.size; omega) ?_; intro v3 w3 ho3 hg3 hat3) | (go_simp; go_at_call 29; refine (cen _).mono ?_; rintro e w2 ⟨g, rfl, hg, hgw, hb2⟩; have hlr := Lib.hid (lit_rk hg); have hbk : Below wr.heap.size wr w2 := (Below.refl wr.heap.size wr).drew.trans hb2; have hOk := Lib.hid (hO.out.kept hbk); clear hg))
            all_goals (
              have hO3 : Hid (Own w3 w.heap.size 5 .u8 v3 (textL (done ++ [q]))) := Lib.hid (by rw [textL_snoc, HYS.out]; unfold Own; rw [List.length_append, numsK_append]; exact ho3)
              have hB3 := (below_on hB hbk).grown hg3 (below_on hB hbk).size (fun k hk => Own.lt hOk.out k hk)
              first | go_wp2 | (go_goals; fail) | skip
              try go_roundw
              case rel => exact ⟨_, j + 2, done ++ [q], rfl, by go_num, by omega, by simp; omega, hO3, hF3, hB3⟩
              case measure => (simp only [intOf]; omega))
          · have hno : Hid (R = none) := Lib.hid (by
              rw [hF2.out, fuP, if_neg (by omega), if_neg (by omega), if_pos hhi, fuP, if_neg (by omega), if_pos (by omega)]; rfl)
            have cl := fun W => low_any y W false (by simp; omega)
            clear hF2 hO
            go_wp2_with (first
              | (go_at_call 81; refine (ch _).mono ?_; rintro e w1 ⟨rfl, rfl⟩)
              | (go_at_call 82; refine (cl _).mono ?_; rintro e w1 ⟨rfl, rfl⟩))
            go_ret2
            exact FuPost.no hno.out hB
        · have hno : Hid (R = none) := Lib.hid (by
            rw [hF2.out, hlast.out (by omega), fuP, if_neg (by omega), if_neg (by omega), if_pos hhi, fuP, if_pos (by omega)]; rfl)
          have hj2 : decide ((j : Int) + 1 < (n : Int)) = false := by simp; omega
          clear hF2 hO hnext hlast
          go_wp2_with (first
            | (go_at_call 81; refine (ch _).mono ?_; rintro e w1 ⟨rfl, rfl⟩))
          go_ret2
          exact FuPost.no hno.out hB
      · have ch := fun W => high_any x W false (by simp; omega)
        by_cases hlo : 56320 ≤ x ∧ x < 57344
        · have cl := fun W => low_any x W true (by simp [hlo])
          have hno : Hid (R = none) := Lib.hid (by
            rw [hF2.out, fuP, if_pos ⟨hlo.1, by omega⟩, if_neg (by omega)]; rfl)
          clear hF2 hO hnext hlast
          go_wp2_with (first
            | (go_at_call 81; refine (ch _).mono ?_; rintro e w1 ⟨rfl, rfl⟩)
            | (go_at_call 82; refine (cl _).mono ?_; rintro e w1 ⟨rfl, rfl⟩))
          go_ret2
          exact FuPost.no hno.out hB
        · have cl := fun W => low_any x W false (by simp; omega)
          have hF3 : Hid (R = (fuP 0 (u.drop (j + 1))).map ((done ++ [x]) ++ ·)) := Lib.hid (by
            rw [hF2.out, fuP, if_neg (by omega), if_neg (by omega), if_neg hhi]
            rcases fuP 0 (u.drop (j + 1)) with _ | m <;> simp)
          have cen := fun W => enc_any x W x0 (by omega)
          have hel := encL_len x
          obtain ⟨ys, hys⟩ : ∃ ys, encL x = ys := ⟨_, rfl⟩
          rw [hys] at cen hel
          have HYS := Lib.hid hys
          clear hys hF2 hnext hlast
          go_wp2_with (first
            | (go_at_call 81; refine (ch _).mono ?_; rintro e w1 ⟨rfl, rfl⟩)
            | (go_at_call 82; refine (cl _).mono ?_; rintro e w1 ⟨rfl, rfl⟩)
            | (go_at_call 29; refine (cen _).mono ?_; rintro e w2 ⟨g, rfl, hg, hgw, hb2⟩; have hlr := Lib.hid (lit_rk hg); have hOk := Lib.hid (hO.out.kept hb2); clear hg)
            | (at_builtin; refine wpList_append_any _ rfl (.tmp 12) (.tmp 18) 67 rfl w.heap.size 5 i0 (.int .u8 0) 1 1 Tryz.underlying67 hi hz0 hz1 hz2 rfl (by decide) _ _ _ rfl hOk.out _ (some ⟨g, 0, none⟩) ys.length ys.length _ rfl hlr.out.reads (nums_one _ _) (by simp only [maxLen]; omega) (by omega) (by have := hB.size; have := hb2.size; omega) ?_; intro v3 w3 ho3 hg3 hat3))
          have hO3 : Hid (Own w3 w.heap.size 5 .u8 v3 (textL (done ++ [x]))) := Lib.hid (by rw [textL_snoc, HYS.out]; unfold Own; rw [List.length_append, numsK_append]; exact ho3)
          exact ⟨⟨_, j + 1, done ++ [x], rfl, by go_num, by omega, by simp; omega, hO3, hF3, (below_on hB hb2).grown hg3 (below_on hB hb2).size (fun k hk => Own.lt hOk.out k hk)⟩, by simp [intOf]; omega⟩
    · obtain rfl : j = n := by omega
      have hdr : u.drop j = [] := List.drop_of_length_le (by rw [HL.out]; exact Nat.le_refl _)
      have hyes : Hid (R = some done) := Lib.hid (by rw [hF.out, hdr, fuP, if_neg (by omega)]; simp)
      obtain ⟨A2, c2, rfl, hRK, _, hA2⟩ := hO.out.slice
      have hcv2 := conv_RK (P := Tryz.prog) (src := 67) (dst := 9) (e := 5) Tryz.underlying67 Tryz.underlying5 Tryz.underlying9 c2 hRK (fun _ => hA2)
      clear hRK hA2 hlt htl hdl hF hdr
      go_wp2
      go_ret2
      exact FuPost.yes hyes.out hB
end Go.Proofs.YtolnnkalgioobaaGreatDoor
