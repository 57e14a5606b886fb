/- utf.FromUnits. -/
import Derived.Test.YtolnnkalgioobaaGreatDoorZo
namespace Go.Proofs.YtolnnkalgioobaaGreatDoor
open Go.RowKit
set_option maxRecDepth 100000
set_option linter.unusedVariables false
set_option linter.unusedSimpArgs false
set_option linter.unnecessarySimpa false

def FuPost (r : Option (List Int)) (w : World) (e : Ending) (w' : World) : Prop :=
  (r = none → e = .returned (.tuple #[.string ⟨#[]⟩, .bool false])) ∧ (∀ l, r = some l → e = .returned (.tuple #[.string (strOfNums (textL l)), .bool true])) ∧ Below w.heap.size w w'
theorem FuPost.no {r : Option (List Int)} {w w' : World} (h : r = none) (hb : Below w.heap.size w w') : FuPost r w (.returned (.tuple #[.string ⟨#[]⟩, .bool false])) w' :=
  ⟨fun _ => rfl, (fun l e => by rw [h] at e; cases e), hb⟩
theorem FuPost.yes {r : Option (List Int)} {w w' : World} {l : List Int} (h : r = some l) (hb : Below w.heap.size w w') : FuPost r w (.returned (.tuple #[.string (strOfNums (textL l)), .bool true])) w' :=
  ⟨(fun e => by rw [h] at e; cases e), (fun m e => by rw [h] at e; obtain rfl := Option.some.inj e; rfl), hb⟩
/-- What a put leaves beside the row. -/
theorem put_step {w W w2 : World} {v : Value} {xs : List Int} {tmp : Obj} (hB : Below w.heap.size w W) (hO : Own W w.heap.size 5 .u8 v xs) (hg : (W.alloc tmp).grownBy w2 v.ownBlock) : Below w.heap.size w w2 :=
  (hB.alloc hB.size _).grown hg (by have := hB.size; simp; omega) (fun j hj => Own.lt hO j hj)

set_option maxHeartbeats 4000000 in
theorem FromUnits_any (A : Option Addr) (n c : Nat) (u : List Int) (w : World) (hl : u.length = n) (hr : RK w .u16 A u) (hn : n ≤ 4194304) (hu : ∀ x ∈ u, 0 ≤ x ∧ x ≤ 65535) :
    Calls Tryz.prog 20 #[.slice A n c] w (FuPost (fuP 0 u) w) := by
  have HL := Lib.hid hl
  have HR := Lib.hid hr
  have HU := Lib.hid hu
  obtain ⟨R, hR⟩ : ∃ R, fuP 0 u = R := ⟨_, rfl⟩
  rw [hR]
  have HRR := Lib.hid hR
  clear hl hr hu hR
  go_enter Tryz.func20, Tryz.ntmps20
  go_wp2
  go_loopw [4, 5, 12] (fun v h i W => ∃ (j : Nat) (H : Int) (done : List Int), i = .int .i64 j ∧ h = .int .i32 H ∧ j ≤ n ∧ Hid (H = 0 ∨ 55296 ≤ H ∧ H < 56320) ∧ done.length ≤ j ∧ Hid (Own W w.heap.size 5 .u8 v (textL done)) ∧ Hid (R = (fuP H (u.drop j)).map (done ++ ·)) ∧ Below w.heap.size w W) (fun _ _ i _ => n - (intOf i).toNat)
  case atStart => exact ⟨0, 0, [], rfl, rfl, by omega, .inl rfl, by simp, Own.nil _ _ _ _, by show _ = _; rw [List.drop_zero, HRR.out]; simp, Below.refl _ _⟩
  case round =>
    obtain ⟨j, H, done, rfl, rfl, hj, hH, hdl, hO, hF, hB⟩ := hrel
    have htl := textL_len done
    by_cases hlt : j < n
    · have hjl : j < u.length := by rw [HL.out]; exact hlt
      rcases HR.out.below hB with h0 | ⟨b, off, rfl, hc⟩
      · rw [h0] at hjl; simp at hjl
      have e1 := hc j hjl
      have hx := HU.out (u.getD j 0) (by rw [List.getD_eq_getElem?_getD, List.getElem?_eq_getElem hjl]; exact List.getElem_mem hjl)
      have hdr : u.drop j = u.getD j 0 :: u.drop (j + 1) := by rw [List.drop_eq_getElem_cons hjl]; simp [List.getD_eq_getElem?_getD, List.getElem?_eq_getElem hjl]
      have hF2 : Hid (R = (fuP H (u.getD j 0 :: u.drop (j + 1))).map (done ++ ·)) := Lib.hid (by rw [← hdr]; exact hF.out)
      generalize u.getD j 0 = x at e1 hx hF2
      obtain ⟨x0, x1⟩ := hx
      have xc : IntKind.i32.wrap x = x := by rw [IntKind.wrap_i32]; omega
      clear hc hjl hdr hF xc
      by_cases hlow : 56320 ≤ x ∧ x ≤ 57343
      · obtain ⟨l0, l1⟩ := hlow
        rcases hH.out with rfl | ⟨k0, k1⟩
        · have hno : Hid (R = none) := Lib.hid (by rw [hF2.out, fuP, if_pos ⟨l0, l1⟩, if_neg (by omega)]; rfl)
          clear hF2 hO
          go_wp2
          go_ret2
          exact FuPost.no hno.out hB
        · have hF3 : Hid (R = (fuP 0 (u.drop (j + 1))).map ((done ++ [65536 + (H - 55296) * 1024 + x - 56320]) ++ ·)) := Lib.hid (by
            rw [hF2.out, fuP, if_pos ⟨l0, l1⟩, if_pos (by omega)]
            rcases fuP 0 (u.drop (j + 1)) with _ | m <;> simp)
          have cput := put_any w.heap.size _ (textL done) (65536 + (H - 55296) * 1024 + x - 56320) wr hO.out hB.size (by omega) (by omega) (by omega)
          have kH : (0 : Int) < H := by omega
          clear hF2
          go_wp2_with (go_at_call 31; refine cput.mono ?_; rintro e w2 ⟨v2, rfl, hO2, tmp, hg2⟩)
          exact ⟨⟨j + 1, 0, done ++ [65536 + (H - 55296) * 1024 + x - 56320], by go_num, rfl, by omega, .inl rfl, by simp; omega, by show Own _ _ _ _ _ _; rw [textL_snoc]; exact hO2, hF3.out, put_step hB hO.out hg2⟩, by simp [intOf]; omega⟩
      · rcases hH.out with rfl | ⟨k0, k1⟩
        · by_cases hhi : 55296 ≤ x ∧ x < 56320
          · obtain ⟨l0, l1⟩ := hhi
            have hF3 : Hid (R = (fuP x (u.drop (j + 1))).map (done ++ ·)) := Lib.hid (by rw [hF2.out, fuP, if_neg hlow, if_neg (by omega), if_pos ⟨l0, l1⟩])
            have l2 : decide (56320 ≤ x) = false := by simp; omega
            clear hF2 hlow
            go_wp2
            exact ⟨⟨j + 1, x, done, by go_num, rfl, by omega, .inr ⟨l0, l1⟩, by omega, hO.out, hF3.out, hB⟩, by simp [intOf]; omega⟩
          · have hF3 : Hid (R = (fuP 0 (u.drop (j + 1))).map ((done ++ [x]) ++ ·)) := Lib.hid (by
              rw [hF2.out, fuP, if_neg hlow, if_neg (by omega), if_neg hhi]
              rcases fuP 0 (u.drop (j + 1)) with _ | m <;> simp)
            have cput := put_any w.heap.size _ (textL done) x wr hO.out hB.size x0 (by omega) (by omega)
            clear hF2
            by_cases q : x < 55296
            · have l2 : decide (56320 ≤ x) = false := by simp; omega
              have l3 : decide (55296 ≤ x) = false := by simp; omega
              clear hlow hhi
              go_wp2_with (go_at_call 31; refine cput.mono ?_; rintro e w2 ⟨v2, rfl, hO2, tmp, hg2⟩)
              exact ⟨⟨j + 1, 0, done ++ [x], by go_num, rfl, by omega, .inl rfl, by simp; omega, by show Own _ _ _ _ _ _; rw [textL_snoc]; exact hO2, hF3.out, put_step hB hO.out hg2⟩, by simp [intOf]; omega⟩
            · have q2 : 57343 < x := by omega
              have l2 : decide (56320 ≤ x) = true := by simp; omega
              have l4 : decide (x ≤ 57343) = false := by simp; omega
              have l3 : decide (55296 ≤ x) = true := by simp; omega
              have l5 : decide (x < 56320) = false := by simp; omega
              clear hlow hhi
              go_wp2_with (go_at_call 31; refine cput.mono ?_; rintro e w2 ⟨v2, rfl, hO2, tmp, hg2⟩)
              exact ⟨⟨j + 1, 0, done ++ [x], by go_num, rfl, by omega, .inl rfl, by simp; omega, by show Own _ _ _ _ _ _; rw [textL_snoc]; exact hO2, hF3.out, put_step hB hO.out hg2⟩, by simp [intOf]; omega⟩
        · have hno : Hid (R = none) := Lib.hid (by rw [hF2.out, fuP, if_neg hlow, if_pos (by omega)]; rfl)
          have kH : (0 : Int) < H := by omega
          have kH2 : decide ((0 : Int) < H) = true := by simp; omega
          clear hF2 hO
          by_cases q : x < 56320
          · have l2 : decide (56320 ≤ x) = false := by simp; omega
            clear hlow
            go_wp2
            go_ret2
            exact FuPost.no hno.out hB
          · have l2 : decide (56320 ≤ x) = true := by simp; omega
            have l4 : decide (x ≤ 57343) = false := by simp; omega
            clear hlow
            go_wp2
            go_ret2
            exact FuPost.no hno.out hB
    · obtain rfl : j = n := by omega
      have hdr : u.drop j = [] := List.drop_of_length_le (by rw [HL.out]; exact Nat.le_refl _)
      have hF2 : Hid (R = (fuP H []).map (done ++ ·)) := Lib.hid (by rw [← hdr]; exact hF.out)
      clear hF hdr
      rcases hH.out with rfl | ⟨k0, k1⟩
      · have hyes : Hid (R = some done) := Lib.hid (by rw [hF2.out, fuP, if_neg (by omega)]; simp)
        obtain ⟨A2, c2, rfl, hRK, _, hA2⟩ := hO.out.slice
        have hcv2 := conv_RK (P := Tryz.prog) (src := 67) (dst := 9) (e := 5) Tryz.underlying67 Tryz.underlying5 Tryz.underlying9 c2 hRK (fun _ => hA2)
        clear hF2 hRK hA2 hlt htl hdl
        go_wp2
        go_ret2
        exact FuPost.yes hyes.out hB
      · have hno : Hid (R = none) := Lib.hid (by rw [hF2.out, fuP, if_pos (by omega)]; rfl)
        have kH : (0 : Int) < H := by omega
        clear hF2 hO hlt
        go_wp2
        go_ret2
        exact FuPost.no hno.out hB
end Go.Proofs.YtolnnkalgioobaaGreatDoor
