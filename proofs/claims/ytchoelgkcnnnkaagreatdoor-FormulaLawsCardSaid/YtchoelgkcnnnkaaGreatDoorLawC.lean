/- WALK: FormulaLaws. -/
import Derived.Test.YtchoelgkcnnnkaaGreatDoorRgB
import Derived.Test.YtchoelgkcnnnkaaGreatDoorSaneB
import Derived.Deep.CutRange
import Derived.BigQuiet
set_option linter.all false
namespace Go.Proofs.YtchoelgkcnnnkaaGreatDoor
open Go.RowKit
set_option maxRecDepth 100000 in
set_option maxHeartbeats 8000000 in
theorem laws_any (x y p : Int) (s t : ByteArray) (w : World) (hx : -9223372036854775808 ≤ x ∧ x ≤ 9223372036854775807) (hy : -9223372036854775808 ≤ y ∧ y ≤ 9223372036854775807) (hp : -9223372036854775808 ≤ p ∧ p ≤ 9223372036854775807)
    (hs : s.size ≤ 9223372036854775807) (ht : t.size ≤ 9223372036854775807) (hG : Glob w) :
    Calls Tryz.prog 9 #[.int .i64 x, .int .i64 y, .int .i64 p, .string s, .string t] w fun e w' => e = .returned (.bool true) ∧ Below w.heap.size w w' := by
  have rx := Pl.pickOf_range x 2000001 (by decide)
  have ry := Pl.pickOf_range y 2000001 (by decide)
  have rp := Pl.pickOf_range p 2 (by decide)
  obtain ⟨P, hP⟩ : ∃ P, P = Pl.pickOf x 2000001 := ⟨_, rfl⟩
  obtain ⟨Q, hQ⟩ : ∃ Q, Q = Pl.pickOf y 2000001 := ⟨_, rfl⟩
  obtain ⟨o, ho⟩ : ∃ o, o = Pl.pickOf p 2 := ⟨_, rfl⟩
  rw [← hP] at rx
  rw [← hQ] at ry
  rw [← ho] at rp
  obtain ⟨X, hX⟩ : ∃ X, X = P - 1000000 := ⟨_, rfl⟩
  obtain ⟨Y, hY⟩ : ∃ Y, Y = Q - 1000000 := ⟨_, rfl⟩
  have hXr : -1000000 ≤ X ∧ X ≤ 1000000 := by omega
  have hYr : -1000000 ≤ Y ∧ Y ≤ 1000000 := by omega
  have hm := Pl.mul_small X Y hXr hYr
  obtain ⟨M, hM⟩ : ∃ M, M = X * Y := ⟨_, rfl⟩
  rw [← hM] at hm
  obtain ⟨Z, hZ⟩ : ∃ Z, Z = X + Y := ⟨_, rfl⟩
  have w1 : IntKind.i64.wrap (P - 1000000) = X := by rw [IntKind.wrap_i64]; omega
  have w2 : IntKind.i64.wrap (Q - 1000000) = Y := by rw [IntKind.wrap_i64]; omega
  have w3 : IntKind.i64.wrap (X + Y) = Z := by rw [IntKind.wrap_i64]; omega
  have w4 : IntKind.i64.wrap (X * Y) = M := by rw [IntKind.wrap_i64, ← hM]; omega
  have S1 : Hid (Pl.app 8 (Pl.num X) (Pl.num Y) = some (Pl.num Z)) := Lib.hid (by rw [hZ]; exact Pl.app_sum X Y hXr hYr)
  have S2 : Hid (Pl.app 8 (Pl.num Y) (Pl.num X) = some (Pl.num Z)) := Lib.hid (by rw [hZ, Int.add_comm]; exact Pl.app_sum Y X hYr hXr)
  have M1 : Hid (Pl.app 10 (Pl.num X) (Pl.num Y) = some (Pl.num M)) := Lib.hid (by rw [hM]; exact Pl.app_prod X Y hXr hYr)
  have M2 : Hid (Pl.app 10 (Pl.num Y) (Pl.num X) = some (Pl.num M)) := Lib.hid (by rw [hM, Int.mul_comm]; exact Pl.app_prod Y X hYr hXr)
  obtain ⟨qk, qn, rn, g, HQV, HRV, HGE, hg⟩ : ∃ (qk qn rn : Int) (g : Bool), Hid ((Y = 0 ∧ qk = 0 ∧ qn = 0 ∧ g = false) ∨ (Y ≠ 0 ∧ qk = 1 ∧ qn = (if (11 : Int) = 11 then Pl.flq X Y else Pl.flr X Y) ∧ g = true)) ∧
      Hid ((Y = 0 ∧ qk = 0 ∧ rn = 0 ∧ g = false) ∨ (Y ≠ 0 ∧ qk = 1 ∧ rn = (if (12 : Int) = 11 then Pl.flq X Y else Pl.flr X Y) ∧ g = true)) ∧
      Hid (g = true → qn = Pl.flq X Y ∧ rn = Pl.flr X Y ∧ Y ≠ 0) ∧ (Y == 0) = !g := by
    by_cases h0 : Y = 0
    · exact ⟨0, 0, 0, false, Lib.hid (.inl ⟨h0, rfl, rfl, rfl⟩), Lib.hid (.inl ⟨h0, rfl, rfl, rfl⟩), Lib.hid (fun h => by cases h), by simp [h0]⟩
    · exact ⟨1, Pl.flq X Y, Pl.flr X Y, true, Lib.hid (.inr ⟨h0, rfl, rfl, rfl⟩), Lib.hid (.inr ⟨h0, rfl, rfl, rfl⟩), Lib.hid (fun _ => ⟨rfl, rfl, h0⟩), by simp [h0]⟩
  have HRP2 : Hid (o = 0 ∨ o = 1) := Lib.hid (by omega)
  obtain ⟨cn, hcn⟩ : ∃ cn, cn = if o = 1 then X else Y := ⟨_, rfl⟩
  have HCN := Lib.hid hcn
  clear hcn
  have HX := Lib.hid hXr
  have HY := Lib.hid hYr
  have HP := Lib.hid hP
  have HQ := Lib.hid hQ
  have HO := Lib.hid ho
  have HM := Lib.hid hM
  have HZ := Lib.hid hZ
  have HXP := Lib.hid hX
  have HYQ := Lib.hid hY
  have HBX := Lib.hid hx
  have HBY := Lib.hid hy
  have HBP := Lib.hid hp
  have HRP := Lib.hid rp
  clear hX hY hZ hM hP hQ ho hm hx hy hp rx ry rp hXr hYr
  go_enter Tryz.func9, Tryz.ntmps9
  go_wp2_with fail
  refine (sane_any _ hG).mono ?_
  rintro e w10 ⟨rfl, hb⟩
  have H10 : Hid (St w w10 []) := Lib.hid ⟨fun _ _ _ _ h => by simp at h, hb⟩
  clear hb hG
  go_wp2_with fail
  refine (pick_any _ _ _ HBX.out.1 HBX.out.2 (by decide) (by decide)).mono ?_
  rintro e w11 ⟨rfl, rfl⟩
  rw [← HP.out]
  go_wp2_with fail
  refine (number_is _ _).mono ?_
  rintro e w12 ⟨rfl, hb⟩
  have H12 := Lib.hid ((H10.out.keep hb).new (.int .i64 1) (.int .i64 X) (.string ⟨#[]⟩))
  clear hb H10
  go_wp2_with fail
  refine (pick_any _ _ _ HBY.out.1 HBY.out.2 (by decide) (by decide)).mono ?_
  rintro e w13 ⟨rfl, rfl⟩
  rw [← HQ.out]
  go_wp2_with fail
  refine (number_is _ _).mono ?_
  rintro e w14 ⟨rfl, hb⟩
  have H14 := Lib.hid ((H12.out.keep hb).new (.int .i64 1) (.int .i64 Y) (.string ⟨#[]⟩))
  clear hb H12
  obtain ⟨ca0, cb0, cc0⟩ := H14.out.cells (n := w12.heap.size) (a := .int .i64 1) (b := .int .i64 X) (c := .string ⟨#[]⟩) (by simp)
  obtain ⟨ca1, cb1, cc1⟩ := H14.out.cells (n := w14.heap.size) (a := .int .i64 1) (b := .int .i64 Y) (c := .string ⟨#[]⟩) (by simp)
  go_wp2_with fail
  clear ca0 cb0 cc0 ca1 cb1 cc1
  refine (of_num 8 X Y Z _ (by omega) HX.out HY.out S1).mono ?_
  rintro e w15 ⟨rfl, hb⟩
  have H15 := Lib.hid ((H14.out.keep hb).new (.int .i64 1) (.int .i64 Z) (.string ⟨#[]⟩))
  clear hb H14
  obtain ⟨ca0, cb0, cc0⟩ := H15.out.cells (n := w12.heap.size) (a := .int .i64 1) (b := .int .i64 X) (c := .string ⟨#[]⟩) (by simp)
  obtain ⟨ca1, cb1, cc1⟩ := H15.out.cells (n := w14.heap.size) (a := .int .i64 1) (b := .int .i64 Y) (c := .string ⟨#[]⟩) (by simp)
  go_wp2_with fail
  clear ca0 cb0 cc0 ca1 cb1 cc1
  refine (of_num 8 Y X Z _ (by omega) HY.out HX.out S2).mono ?_
  rintro e w16 ⟨rfl, hb⟩
  have H16 := Lib.hid ((H15.out.keep hb).new (.int .i64 1) (.int .i64 Z) (.string ⟨#[]⟩))
  clear hb H15
  obtain ⟨ca0, cb0, cc0⟩ := H16.out.cells (n := w12.heap.size) (a := .int .i64 1) (b := .int .i64 X) (c := .string ⟨#[]⟩) (by simp)
  obtain ⟨ca1, cb1, cc1⟩ := H16.out.cells (n := w14.heap.size) (a := .int .i64 1) (b := .int .i64 Y) (c := .string ⟨#[]⟩) (by simp)
  go_wp2_with fail
  clear ca0 cb0 cc0 ca1 cb1 cc1
  refine (of_num 10 X Y M _ (by omega) HX.out HY.out M1).mono ?_
  rintro e w17 ⟨rfl, hb⟩
  have H17 := Lib.hid ((H16.out.keep hb).new (.int .i64 1) (.int .i64 M) (.string ⟨#[]⟩))
  clear hb H16
  obtain ⟨ca0, cb0, cc0⟩ := H17.out.cells (n := w12.heap.size) (a := .int .i64 1) (b := .int .i64 X) (c := .string ⟨#[]⟩) (by simp)
  obtain ⟨ca1, cb1, cc1⟩ := H17.out.cells (n := w14.heap.size) (a := .int .i64 1) (b := .int .i64 Y) (c := .string ⟨#[]⟩) (by simp)
  go_wp2_with fail
  clear ca0 cb0 cc0 ca1 cb1 cc1
  refine (of_num 10 Y X M _ (by omega) HY.out HX.out M2).mono ?_
  rintro e w18 ⟨rfl, hb⟩
  have H18 := Lib.hid ((H17.out.keep hb).new (.int .i64 1) (.int .i64 M) (.string ⟨#[]⟩))
  clear hb H17
  obtain ⟨ca0, cb0, cc0⟩ := H18.out.cells (n := w12.heap.size) (a := .int .i64 1) (b := .int .i64 X) (c := .string ⟨#[]⟩) (by simp)
  obtain ⟨ca1, cb1, cc1⟩ := H18.out.cells (n := w14.heap.size) (a := .int .i64 1) (b := .int .i64 Y) (c := .string ⟨#[]⟩) (by simp)
  obtain ⟨ca2, cb2, cc2⟩ := H18.out.cells (n := w15.heap.size) (a := .int .i64 1) (b := .int .i64 Z) (c := .string ⟨#[]⟩) (by simp)
  obtain ⟨ca3, cb3, cc3⟩ := H18.out.cells (n := w16.heap.size) (a := .int .i64 1) (b := .int .i64 Z) (c := .string ⟨#[]⟩) (by simp)
  obtain ⟨ca4, cb4, cc4⟩ := H18.out.cells (n := w17.heap.size) (a := .int .i64 1) (b := .int .i64 M) (c := .string ⟨#[]⟩) (by simp)
  obtain ⟨ca5, cb5, cc5⟩ := H18.out.cells (n := w18.heap.size) (a := .int .i64 1) (b := .int .i64 M) (c := .string ⟨#[]⟩) (by simp)
  go_wp2_with fail
  clear ca0 cb0 cc0 ca1 cb1 cc1 ca2 cb2 cc2 ca3 cb3 cc3 ca4 cb4 cc4 ca5 cb5 cc5
  refine (of_div 11 X Y qk qn g _ (by omega) HX.out HY.out HQV).mono ?_
  rintro e w19 ⟨rfl, hb⟩
  have H19 := Lib.hid (((H18.out.sub (l' := [(w12.heap.size, .int .i64 1, .int .i64 X, .string ⟨#[]⟩), (w14.heap.size, .int .i64 1, .int .i64 Y, .string ⟨#[]⟩)]) (by intro q hq; simp at hq; rcases hq with rfl | rfl <;> simp)).keep hb).new (.int .i64 qk) (.int .i64 qn) (.string ⟨#[]⟩))
  clear hb H18
  obtain ⟨ca0, cb0, cc0⟩ := H19.out.cells (n := w12.heap.size) (a := .int .i64 1) (b := .int .i64 X) (c := .string ⟨#[]⟩) (by simp)
  obtain ⟨ca1, cb1, cc1⟩ := H19.out.cells (n := w14.heap.size) (a := .int .i64 1) (b := .int .i64 Y) (c := .string ⟨#[]⟩) (by simp)
  go_wp2_with fail
  clear ca0 cb0 cc0 ca1 cb1 cc1
  refine (of_div 12 X Y qk rn g _ (by omega) HX.out HY.out HRV).mono ?_
  rintro e w20 ⟨rfl, hb⟩
  have H20 := Lib.hid ((H19.out.keep hb).new (.int .i64 qk) (.int .i64 rn) (.string ⟨#[]⟩))
  clear hb H19
  obtain ⟨ca0, cb0, cc0⟩ := H20.out.cells (n := w12.heap.size) (a := .int .i64 1) (b := .int .i64 X) (c := .string ⟨#[]⟩) (by simp)
  obtain ⟨ca1, cb1, cc1⟩ := H20.out.cells (n := w14.heap.size) (a := .int .i64 1) (b := .int .i64 Y) (c := .string ⟨#[]⟩) (by simp)
  obtain ⟨ca2, cb2, cc2⟩ := H20.out.cells (n := w19.heap.size) (a := .int .i64 qk) (b := .int .i64 qn) (c := .string ⟨#[]⟩) (by simp)
  obtain ⟨ca3, cb3, cc3⟩ := H20.out.cells (n := w20.heap.size) (a := .int .i64 qk) (b := .int .i64 rn) (c := .string ⟨#[]⟩) (by simp)
  go_upto_region 15 with fail
  go_cut [192] from 145 to 192 (fun s192 wx => s192 = .bool false ∧ St w wx [(w12.heap.size, .int .i64 1, .int .i64 X, .string ⟨#[]⟩), (w14.heap.size, .int .i64 1, .int .i64 Y, .string ⟨#[]⟩)])
  case first =>
    have HS := Lib.hid (H20.out.sub (l' := [(w12.heap.size, .int .i64 1, .int .i64 X, .string ⟨#[]⟩), (w14.heap.size, .int .i64 1, .int .i64 Y, .string ⟨#[]⟩)]) (by intro q hq; simp at hq; rcases hq with rfl | rfl <;> simp))
    cases g
    · go_wp2_with fail
      go_meet
      case rel => exact ⟨rfl, HS.out⟩
    · obtain ⟨g1, g2, g3⟩ := HGE.out rfl
      have b1 := Pl.flq_small X Y HX.out
      have b2 := Pl.flr_small X Y HY.out g3
      have b3 := Pl.flr_range X Y g3
      have b4 : X = Y * Pl.flq X Y + Pl.flr X Y := by unfold Pl.flr; omega
      rw [← g1] at b1 b4
      rw [← g2] at b2 b3 b4
      obtain ⟨QY, hQY⟩ : ∃ QY, QY = qn * Y := ⟨_, rfl⟩
      have b5 : QY + rn = X := by rw [b4, hQY, Int.mul_comm]
      have hx1 := HX.out
      have q1 : IntKind.i64.wrap (qn * Y) = QY := by rw [IntKind.wrap_i64, ← hQY]; omega
      have q2 : IntKind.i64.wrap (QY + rn) = X := by rw [b5, IntKind.wrap_i64]; omega
      clear b1 b2 b4 b5 hQY hx1 g1 g2
      rcases Int.lt_or_gt_of_ne g3 with hn | hn
      · obtain ⟨b6, b7⟩ := b3.2 hn
        have b8 : ¬ 0 < rn := by omega
        have b9 : ¬ rn ≤ Y := by omega
        have b10 : ¬ 0 < Y := by omega
        clear b3 g3
        go_wp2_with fail
        go_meet
        case rel => exact ⟨rfl, HS.out⟩
      · obtain ⟨b6, b7⟩ := b3.1 hn
        have b8 : ¬ rn < 0 := by omega
        have b9 : ¬ Y ≤ rn := by omega
        have b10 : ¬ Y < 0 := by omega
        clear b3 g3
        go_wp2_with fail
        go_meet
        case rel => exact ⟨rfl, HS.out⟩
  case rest =>
  obtain ⟨rfl, hst⟩ := hcut
  have H21 := Lib.hid hst
  clear hst ca0 cb0 cc0 ca1 cb1 cc1 ca2 cb2 cc2 ca3 cb3 cc3 H20 hg
  go_wp2_with fail
  refine (pick_any _ _ _ HBP.out.1 HBP.out.2 (by decide) (by decide)).mono ?_
  rintro e w22 ⟨rfl, rfl⟩
  rw [← HO.out]
  go_upto_region 18 with fail
  obtain ⟨O1, hO1⟩ : ∃ O1, O1 = wc.heap.size := ⟨_, rfl⟩
  have H22 := Lib.hid (H21.out.new (.int .i64 2) (.int .i64 o) (.string ⟨#[]⟩))
  clear H21
  rw [← hO1] at H22 ⊢
  clear hO1
  generalize wc.alloc (.cells #[.int .i64 2, .int .i64 o, .string ⟨#[]⟩] 48) = w23 at H22 ⊢
  go_cut [26, 27, 28] from 196 to 206 (fun s26 s27 s28 wx => ∃ n : Nat, s26 = .pointer (some ⟨n, 0, none⟩) ∧ s27 = .bool true ∧ s28 = .int .i64 0 ∧ St w wx [(n, .int .i64 2, .int .i64 o, .string ⟨#[]⟩), (O1, .int .i64 2, .int .i64 o, .string ⟨#[]⟩), (w12.heap.size, .int .i64 1, .int .i64 X, .string ⟨#[]⟩), (w14.heap.size, .int .i64 1, .int .i64 Y, .string ⟨#[]⟩)])
  case first =>
    have hl0 : Hid (∀ q ∈ ([(O1, .int .i64 2, .int .i64 o, .string ⟨#[]⟩)] : List (Nat × Value × Value × Value)), q.1 < w23.heap.size) := Lib.hid (fun q hq => ((show SB [(O1, .int .i64 2, .int .i64 o, .string ⟨#[]⟩)] w23 from (H22.out.sub (l' := [(O1, .int .i64 2, .int .i64 o, .string ⟨#[]⟩)]) (by intro q hq; simp at hq; subst hq; simp)).1) q.1 q.2.1 q.2.2.1 q.2.2.2 hq).lt)
    have hSB : Hid (SB [(O1, .int .i64 2, .int .i64 o, .string ⟨#[]⟩)] w23) := Lib.hid (H22.out.sub (l' := [(O1, .int .i64 2, .int .i64 o, .string ⟨#[]⟩)]) (by intro q hq; simp at hq; subst hq; simp)).1
    refine rg_region [(197, 0), (198, 1), (199, 2), (200, 3), (201, 4), (202, 5), (203, 6), (196, 7), (204, 8), (205, 9), (206, 10), (26, 11), (27, 13), (28, 14)] [25] 370 (fun i d => match i with | 0 => .agg #[.int .i64 6, .int .i64 0, .string ⟨#[]⟩] | 1 => .agg #[.int .i64 6, .int .i64 0, .string ⟨#[]⟩] | 2 => .agg #[.int .i64 4, .int .i64 0, .string ⟨#[116]⟩] | 3 => .slice (some ⟨d, 0, none⟩) 3 3 | 4 => .agg #[.int .i64 2, .int .i64 o, .string ⟨#[]⟩] | 5 => .slice (some ⟨d, 0, none⟩) 1 1 | 6 => .tuple #[.agg #[.int .i64 2, .int .i64 o, .string ⟨#[]⟩], .bool true, .int .i64 0] | 7 => .tuple #[.agg #[.int .i64 2, .int .i64 o, .string ⟨#[]⟩], .bool true, .int .i64 0] | 8 => .agg #[.int .i64 2, .int .i64 o, .string ⟨#[]⟩] | 9 => .bool true | 10 => .int .i64 0 | 11 => .pointer (some ⟨d, 0, none⟩) | 13 => .bool true | 14 => .int .i64 0 | _ => undef) (fun t => match t with | 25 => .pointer (some ⟨O1, 0, none⟩) | _ => undef) (JJ w23 [(O1, .int .i64 2, .int .i64 o, .string ⟨#[]⟩)] 3 5 6 11 12 #[.int .i64 6, .int .i64 0, .string ⟨#[]⟩, .int .i64 6, .int .i64 0, .string ⟨#[]⟩, .int .i64 4, .int .i64 0, .string ⟨#[116]⟩] #[.int .i64 2, .int .i64 o, .string ⟨#[]⟩] (.int .i64 2) (.int .i64 o) (.string ⟨#[]⟩)) (by kernel_rfl) rfl (by kernel_rfl) ?_ (JJ.start (hSB.out.below (below_drewN' (Below.refl _ _) 1))) ?_ ?_
    · intro t ht; simp at ht; subst ht <;> rfl
    · refine ⟨?_, ?_, ?_, ?_, ?_, ?_, ?_, ?_, ?_, ?_, ?_, ?_, ?_, ?_, ?_, trivial⟩
      · intro l ds W ρ hρ hl he hJ
        have ec := rho_const hρ
        clear hρ
        refine Gives.value (u := .agg #[.int .i64 6, .int .i64 0, .string ⟨#[]⟩]) (X' := W) ?_ ⟨0, fun _ => rfl, hJ.pure 0 0 (by decide) (by decide) (by decide) (by decide)⟩
        clear he hl hJ
        first | (go_simp; done) | (go_simp; rfl)
      · intro l ds W ρ hρ hl he hJ
        have ec := rho_const hρ
        clear hρ
        refine Gives.value (u := .agg #[.int .i64 6, .int .i64 0, .string ⟨#[]⟩]) (X' := W) ?_ ⟨0, fun _ => rfl, hJ.pure 1 0 (by decide) (by decide) (by decide) (by decide)⟩
        clear he hl hJ
        first | (go_simp; done) | (go_simp; rfl)
      · intro l ds W ρ hρ hl he hJ
        have ec := rho_const hρ
        have ef := rho_func hρ
        clear hρ
        refine Gives.call (f := 33) (args := #[.string ⟨#[116]⟩]) (X' := W) ?_ ?_
        · clear he hl hJ
          first | (go_simp; done) | (go_simp; rfl)
        · refine (name_is _ _).mono ?_
          rintro e Y ⟨rfl, hbY⟩
          exact ⟨_, rfl, 0, fun _ => rfl, hJ.grow hbY 2 0 (by decide) (by decide) (by decide) (by decide)⟩
      · intro l ds W ρ hρ hl he hJ
        have e197 : ρ (.tmp 197) = .agg #[.int .i64 6, .int .i64 0, .string ⟨#[]⟩] := by rw [hρ]; rfl
        have e198 : ρ (.tmp 198) = .agg #[.int .i64 6, .int .i64 0, .string ⟨#[]⟩] := by rw [hρ]; rfl
        have e199 : ρ (.tmp 199) = .agg #[.int .i64 4, .int .i64 0, .string ⟨#[116]⟩] := by rw [hρ]; rfl
        have ec := rho_const hρ
        clear hρ
        refine Gives.value (u := .slice (some ⟨W.heap.size, 0, none⟩) 3 3) (X' := W.alloc (.cells #[.int .i64 6, .int .i64 0, .string ⟨#[]⟩, .int .i64 6, .int .i64 0, .string ⟨#[]⟩, .int .i64 4, .int .i64 0, .string ⟨#[116]⟩] 24)) ?_ ⟨W.heap.size, fun _ => rfl, hJ.allocA (by decide) (by decide) (by decide) (by decide)⟩
        clear he hl hJ
        first | (go_simp; done) | (go_simp; rfl)
      · intro l ds W ρ hρ hl he hJ
        have e25 : ρ (.tmp 25) = .pointer (some ⟨O1, 0, none⟩) := by rw [hρ]; rfl
        have ec := rho_const hρ
        clear hρ
        refine Gives.value (u := .agg #[.int .i64 2, .int .i64 o, .string ⟨#[]⟩]) (X' := W) ?_ ⟨0, fun _ => rfl, hJ.pure 4 0 (by decide) (by decide) (by decide) (by decide)⟩
        obtain ⟨qa0, qb0, qc0⟩ := SB.cells hJ.s (n := O1) (a := .int .i64 2) (b := .int .i64 o) (c := .string ⟨#[]⟩) (by simp)
        clear he hl hJ
        first | (go_simp; done) | (go_simp; rfl)
      · intro l ds W ρ hρ hl he hJ
        have e201 : ρ (.tmp 201) = .agg #[.int .i64 2, .int .i64 o, .string ⟨#[]⟩] := by rw [hρ]; rfl
        have ec := rho_const hρ
        clear hρ
        refine Gives.value (u := .slice (some ⟨W.heap.size, 0, none⟩) 1 1) (X' := W.alloc (.cells #[.int .i64 2, .int .i64 o, .string ⟨#[]⟩] 48)) ?_ ⟨W.heap.size, fun _ => rfl, hJ.allocB (by decide) (by decide) (by decide) (by decide)⟩
        clear he hl hJ
        first | (go_simp; done) | (go_simp; rfl)
      · intro l ds W ρ hρ hl he hJ
        have e200 : ρ (.tmp 200) = .slice (some ⟨ds 3, 0, none⟩) 3 3 := by rw [hρ]; rfl
        have e202 : ρ (.tmp 202) = .slice (some ⟨ds 5, 0, none⟩) 1 1 := by rw [hρ]; rfl
        have ec := rho_const hρ
        have ef := rho_func hρ
        clear hρ
        have hA := hJ.hA (he ⟨3, .data⟩ (by simp) rfl) hl
        have hBB := hJ.hB (he ⟨5, .data⟩ (by simp) rfl) hl
        refine Gives.call (f := 28) (args := #[.slice (some ⟨ds 3, 0, none⟩) 3 3, .slice (some ⟨ds 5, 0, none⟩) 1 1]) (X' := W) ?_ ?_
        · clear he hl hJ hA hBB
          first | (go_simp; done) | (go_simp; rfl)
        · refine (val_nn o HRP2.out (ds 3) (ds 5) W hA hBB).mono ?_
          rintro e Y ⟨rfl, hbY⟩
          exact ⟨_, rfl, 0, fun _ => rfl, hJ.grow hbY 6 0 (by decide) (by decide) (by decide) (by decide)⟩
      · intro l ds W ρ hρ hl he hJ
        have e203 : ρ (.tmp 203) = .tuple #[.agg #[.int .i64 2, .int .i64 o, .string ⟨#[]⟩], .bool true, .int .i64 0] := by rw [hρ]; rfl
        have ec := rho_const hρ
        clear hρ
        refine Gives.value (u := .tuple #[.agg #[.int .i64 2, .int .i64 o, .string ⟨#[]⟩], .bool true, .int .i64 0]) (X' := W) ?_ ⟨0, fun _ => rfl, hJ.pure 7 0 (by decide) (by decide) (by decide) (by decide)⟩
        clear he hl hJ
        first | (go_simp; done) | (go_simp; rfl)
      · intro l ds W ρ hρ hl he hJ
        have e196 : ρ (.tmp 196) = .tuple #[.agg #[.int .i64 2, .int .i64 o, .string ⟨#[]⟩], .bool true, .int .i64 0] := by rw [hρ]; rfl
        have ec := rho_const hρ
        clear hρ
        refine Gives.value (u := .agg #[.int .i64 2, .int .i64 o, .string ⟨#[]⟩]) (X' := W) ?_ ⟨0, fun _ => rfl, hJ.pure 8 0 (by decide) (by decide) (by decide) (by decide)⟩
        clear he hl hJ
        first | (go_simp; done) | (go_simp; rfl)
      · intro l ds W ρ hρ hl he hJ
        have e196 : ρ (.tmp 196) = .tuple #[.agg #[.int .i64 2, .int .i64 o, .string ⟨#[]⟩], .bool true, .int .i64 0] := by rw [hρ]; rfl
        have ec := rho_const hρ
        clear hρ
        refine Gives.value (u := .bool true) (X' := W) ?_ ⟨0, fun _ => rfl, hJ.pure 9 0 (by decide) (by decide) (by decide) (by decide)⟩
        clear he hl hJ
        first | (go_simp; done) | (go_simp; rfl)
      · intro l ds W ρ hρ hl he hJ
        have e196 : ρ (.tmp 196) = .tuple #[.agg #[.int .i64 2, .int .i64 o, .string ⟨#[]⟩], .bool true, .int .i64 0] := by rw [hρ]; rfl
        have ec := rho_const hρ
        clear hρ
        refine Gives.value (u := .int .i64 0) (X' := W) ?_ ⟨0, fun _ => rfl, hJ.pure 10 0 (by decide) (by decide) (by decide) (by decide)⟩
        clear he hl hJ
        first | (go_simp; done) | (go_simp; rfl)
      · intro l ds W ρ hρ hl he hJ
        have ec := rho_const hρ
        clear hρ
        refine Gives.value (u := .pointer (some ⟨W.heap.size, 0, none⟩)) (X' := W.alloc (.cells #[.int .i64 0, .int .i64 0, .string ⟨#[]⟩] 48)) ?_ ⟨W.heap.size, fun _ => rfl, hJ.allocD (by decide) (by decide) (by decide) (by decide) hl⟩
        clear he hl hJ
        first | (go_simp; done) | (go_simp; rfl)
      · intro l ds W ρ hρ hl he hJ
        have e26 : ρ (.tmp 26) = .pointer (some ⟨ds 11, 0, none⟩) := by rw [hρ]; rfl
        have e204 : ρ (.tmp 204) = .agg #[.int .i64 2, .int .i64 o, .string ⟨#[]⟩] := by rw [hρ]; rfl
        have ec := rho_const hρ
        clear hρ
        have hD := hJ.hD (he ⟨11, .data⟩ (by simp) rfl) hl
        obtain ⟨za0, za1, za2, ya0, ya1, ya2⟩ := Box3.cells hD
        refine Gives.skip (X' := ((W.setCell ⟨ds 11, 0, none⟩ (.int .i64 2)).setCell ⟨ds 11, 1, none⟩ (.int .i64 o)).setCell ⟨ds 11, 2, none⟩ (.string ⟨#[]⟩)) ?_ ⟨0, fun h => absurd rfl h, hJ.store 0 (by decide) (by decide) (he ⟨6, .chain⟩ (by simp) rfl) (he ⟨11, .data⟩ (by simp) rfl) hl hl0.out⟩
        clear he hl hJ hD
        first | (go_simp; done) | (go_simp; rfl)
      · intro l ds W ρ hρ hl he hJ
        have e205 : ρ (.tmp 205) = .bool true := by rw [hρ]; rfl
        have ec := rho_const hρ
        clear hρ
        refine Gives.value (u := .bool true) (X' := W) ?_ ⟨0, fun _ => rfl, hJ.pure 13 0 (by decide) (by decide) (by decide) (by decide)⟩
        clear he hl hJ
        first | (go_simp; done) | (go_simp; rfl)
      · intro l ds W ρ hρ hl he hJ
        have e206 : ρ (.tmp 206) = .int .i64 0 := by rw [hρ]; rfl
        have ec := rho_const hρ
        clear hρ
        refine Gives.value (u := .int .i64 0) (X' := W) ?_ ⟨0, fun _ => rfl, hJ.pure 14 0 (by decide) (by decide) (by decide) (by decide)⟩
        clear he hl hJ
        first | (go_simp; done) | (go_simp; rfl)
    · intro lt ds W hlt hJ
      simp only [putAll, Act.put, List.setIfInBounds_toArray, List.set_cons_zero, List.set_cons_succ]
      have hbx := hJ.hE (hlt _ (by decide))
      have hB := hJ.b
      clear hJ hlt
      go_wp2_with fail
      go_meet
      case rel => exact ⟨_, rfl, rfl, rfl, H22.out.more hB hbx⟩
  case rest =>
  obtain ⟨n1, rfl, rfl, rfl, hst⟩ := hcut
  have H24 := Lib.hid hst
  clear hst H22
  go_upto_region 19 with fail
  go_cut [29, 30, 31] from 207 to 220 (fun s29 s30 s31 wx => ∃ n : Nat, s29 = .pointer (some ⟨n, 0, none⟩) ∧ s30 = .bool true ∧ s31 = .int .i64 0 ∧ St w wx [(n, .int .i64 1, .int .i64 cn, .string ⟨#[]⟩), (n1, .int .i64 2, .int .i64 o, .string ⟨#[]⟩), (O1, .int .i64 2, .int .i64 o, .string ⟨#[]⟩), (w12.heap.size, .int .i64 1, .int .i64 X, .string ⟨#[]⟩), (w14.heap.size, .int .i64 1, .int .i64 Y, .string ⟨#[]⟩)])
  case first =>
    have hl0 : Hid (∀ q ∈ ([(O1, .int .i64 2, .int .i64 o, .string ⟨#[]⟩), (w12.heap.size, .int .i64 1, .int .i64 X, .string ⟨#[]⟩), (w14.heap.size, .int .i64 1, .int .i64 Y, .string ⟨#[]⟩)] : List (Nat × Value × Value × Value)), q.1 < wc.heap.size) := Lib.hid (fun q hq => ((show SB [(O1, .int .i64 2, .int .i64 o, .string ⟨#[]⟩), (w12.heap.size, .int .i64 1, .int .i64 X, .string ⟨#[]⟩), (w14.heap.size, .int .i64 1, .int .i64 Y, .string ⟨#[]⟩)] wc from (H24.out.sub (l' := [(O1, .int .i64 2, .int .i64 o, .string ⟨#[]⟩), (w12.heap.size, .int .i64 1, .int .i64 X, .string ⟨#[]⟩), (w14.heap.size, .int .i64 1, .int .i64 Y, .string ⟨#[]⟩)]) (by intro q hq; simp at hq; rcases hq with rfl | rfl | rfl <;> simp)).1) q.1 q.2.1 q.2.2.1 q.2.2.2 hq).lt)
    have hSB : Hid (SB [(O1, .int .i64 2, .int .i64 o, .string ⟨#[]⟩), (w12.heap.size, .int .i64 1, .int .i64 X, .string ⟨#[]⟩), (w14.heap.size, .int .i64 1, .int .i64 Y, .string ⟨#[]⟩)] wc) := Lib.hid (H24.out.sub (l' := [(O1, .int .i64 2, .int .i64 o, .string ⟨#[]⟩), (w12.heap.size, .int .i64 1, .int .i64 X, .string ⟨#[]⟩), (w14.heap.size, .int .i64 1, .int .i64 Y, .string ⟨#[]⟩)]) (by intro q hq; simp at hq; rcases hq with rfl | rfl | rfl <;> simp)).1
    refine rg_region [(208, 0), (209, 1), (210, 2), (211, 3), (212, 4), (213, 5), (214, 6), (215, 7), (216, 8), (217, 9), (207, 10), (218, 11), (219, 12), (220, 13), (29, 14), (30, 16), (31, 17)] [25, 11, 12] 370 (fun i d => match i with | 0 => .agg #[.int .i64 17, .int .i64 0, .string ⟨#[]⟩] | 1 => .agg #[.int .i64 4, .int .i64 0, .string ⟨#[116]⟩] | 2 => .agg #[.int .i64 4, .int .i64 0, .string ⟨#[110]⟩] | 3 => .agg #[.int .i64 4, .int .i64 0, .string ⟨#[110, 49]⟩] | 4 => .slice (some ⟨d, 0, none⟩) 4 4 | 5 => .agg #[.int .i64 2, .int .i64 o, .string ⟨#[]⟩] | 6 => .agg #[.int .i64 1, .int .i64 X, .string ⟨#[]⟩] | 7 => .agg #[.int .i64 1, .int .i64 Y, .string ⟨#[]⟩] | 8 => .slice (some ⟨d, 0, none⟩) 3 3 | 9 => .tuple #[.agg #[.int .i64 1, .int .i64 cn, .string ⟨#[]⟩], .bool true, .int .i64 0] | 10 => .tuple #[.agg #[.int .i64 1, .int .i64 cn, .string ⟨#[]⟩], .bool true, .int .i64 0] | 11 => .agg #[.int .i64 1, .int .i64 cn, .string ⟨#[]⟩] | 12 => .bool true | 13 => .int .i64 0 | 14 => .pointer (some ⟨d, 0, none⟩) | 16 => .bool true | 17 => .int .i64 0 | _ => undef) (fun t => match t with | 25 => .pointer (some ⟨O1, 0, none⟩) | 11 => .pointer (some ⟨w12.heap.size, 0, none⟩) | 12 => .pointer (some ⟨w14.heap.size, 0, none⟩) | _ => undef) (JJ wc [(O1, .int .i64 2, .int .i64 o, .string ⟨#[]⟩), (w12.heap.size, .int .i64 1, .int .i64 X, .string ⟨#[]⟩), (w14.heap.size, .int .i64 1, .int .i64 Y, .string ⟨#[]⟩)] 4 8 9 14 15 #[.int .i64 17, .int .i64 0, .string ⟨#[]⟩, .int .i64 4, .int .i64 0, .string ⟨#[116]⟩, .int .i64 4, .int .i64 0, .string ⟨#[110]⟩, .int .i64 4, .int .i64 0, .string ⟨#[110, 49]⟩] #[.int .i64 2, .int .i64 o, .string ⟨#[]⟩, .int .i64 1, .int .i64 X, .string ⟨#[]⟩, .int .i64 1, .int .i64 Y, .string ⟨#[]⟩] (.int .i64 1) (.int .i64 cn) (.string ⟨#[]⟩)) (by kernel_rfl) rfl (by kernel_rfl) ?_ (JJ.start (hSB.out.below (below_drewN' (Below.refl _ _) 1))) ?_ ?_
    · intro t ht; simp at ht; rcases ht with rfl | rfl | rfl <;> rfl
    · refine ⟨?_, ?_, ?_, ?_, ?_, ?_, ?_, ?_, ?_, ?_, ?_, ?_, ?_, ?_, ?_, ?_, ?_, ?_, trivial⟩
      · intro l ds W ρ hρ hl he hJ
        have ec := rho_const hρ
        clear hρ
        refine Gives.value (u := .agg #[.int .i64 17, .int .i64 0, .string ⟨#[]⟩]) (X' := W) ?_ ⟨0, fun _ => rfl, hJ.pure 0 0 (by decide) (by decide) (by decide) (by decide)⟩
        clear he hl hJ
        first | (go_simp; done) | (go_simp; rfl)
      · intro l ds W ρ hρ hl he hJ
        have ec := rho_const hρ
        have ef := rho_func hρ
        clear hρ
        refine Gives.call (f := 33) (args := #[.string ⟨#[116]⟩]) (X' := W) ?_ ?_
        · clear he hl hJ
          first | (go_simp; done) | (go_simp; rfl)
        · refine (name_is _ _).mono ?_
          rintro e Y ⟨rfl, hbY⟩
          exact ⟨_, rfl, 0, fun _ => rfl, hJ.grow hbY 1 0 (by decide) (by decide) (by decide) (by decide)⟩
      · intro l ds W ρ hρ hl he hJ
        have ec := rho_const hρ
        have ef := rho_func hρ
        clear hρ
        refine Gives.call (f := 33) (args := #[.string ⟨#[110]⟩]) (X' := W) ?_ ?_
        · clear he hl hJ
          first | (go_simp; done) | (go_simp; rfl)
        · refine (name_is _ _).mono ?_
          rintro e Y ⟨rfl, hbY⟩
          exact ⟨_, rfl, 0, fun _ => rfl, hJ.grow hbY 2 0 (by decide) (by decide) (by decide) (by decide)⟩
      · intro l ds W ρ hρ hl he hJ
        have ec := rho_const hρ
        have ef := rho_func hρ
        clear hρ
        refine Gives.call (f := 33) (args := #[.string ⟨#[110, 49]⟩]) (X' := W) ?_ ?_
        · clear he hl hJ
          first | (go_simp; done) | (go_simp; rfl)
        · refine (name_is _ _).mono ?_
          rintro e Y ⟨rfl, hbY⟩
          exact ⟨_, rfl, 0, fun _ => rfl, hJ.grow hbY 3 0 (by decide) (by decide) (by decide) (by decide)⟩
      · intro l ds W ρ hρ hl he hJ
        have e208 : ρ (.tmp 208) = .agg #[.int .i64 17, .int .i64 0, .string ⟨#[]⟩] := by rw [hρ]; rfl
        have e209 : ρ (.tmp 209) = .agg #[.int .i64 4, .int .i64 0, .string ⟨#[116]⟩] := by rw [hρ]; rfl
        have e210 : ρ (.tmp 210) = .agg #[.int .i64 4, .int .i64 0, .string ⟨#[110]⟩] := by rw [hρ]; rfl
        have e211 : ρ (.tmp 211) = .agg #[.int .i64 4, .int .i64 0, .string ⟨#[110, 49]⟩] := by rw [hρ]; rfl
        have ec := rho_const hρ
        clear hρ
        refine Gives.value (u := .slice (some ⟨W.heap.size, 0, none⟩) 4 4) (X' := W.alloc (.cells #[.int .i64 17, .int .i64 0, .string ⟨#[]⟩, .int .i64 4, .int .i64 0, .string ⟨#[116]⟩, .int .i64 4, .int .i64 0, .string ⟨#[110]⟩, .int .i64 4, .int .i64 0, .string ⟨#[110, 49]⟩] 24)) ?_ ⟨W.heap.size, fun _ => rfl, hJ.allocA (by decide) (by decide) (by decide) (by decide)⟩
        clear he hl hJ
        first | (go_simp; done) | (go_simp; rfl)
      · intro l ds W ρ hρ hl he hJ
        have e25 : ρ (.tmp 25) = .pointer (some ⟨O1, 0, none⟩) := by rw [hρ]; rfl
        have ec := rho_const hρ
        clear hρ
        refine Gives.value (u := .agg #[.int .i64 2, .int .i64 o, .string ⟨#[]⟩]) (X' := W) ?_ ⟨0, fun _ => rfl, hJ.pure 5 0 (by decide) (by decide) (by decide) (by decide)⟩
        obtain ⟨qa0, qb0, qc0⟩ := SB.cells hJ.s (n := O1) (a := .int .i64 2) (b := .int .i64 o) (c := .string ⟨#[]⟩) (by simp)
        obtain ⟨qa1, qb1, qc1⟩ := SB.cells hJ.s (n := w12.heap.size) (a := .int .i64 1) (b := .int .i64 X) (c := .string ⟨#[]⟩) (by simp)
        obtain ⟨qa2, qb2, qc2⟩ := SB.cells hJ.s (n := w14.heap.size) (a := .int .i64 1) (b := .int .i64 Y) (c := .string ⟨#[]⟩) (by simp)
        clear he hl hJ
        first | (go_simp; done) | (go_simp; rfl)
      · intro l ds W ρ hρ hl he hJ
        have e11 : ρ (.tmp 11) = .pointer (some ⟨w12.heap.size, 0, none⟩) := by rw [hρ]; rfl
        have ec := rho_const hρ
        clear hρ
        refine Gives.value (u := .agg #[.int .i64 1, .int .i64 X, .string ⟨#[]⟩]) (X' := W) ?_ ⟨0, fun _ => rfl, hJ.pure 6 0 (by decide) (by decide) (by decide) (by decide)⟩
        obtain ⟨qa0, qb0, qc0⟩ := SB.cells hJ.s (n := O1) (a := .int .i64 2) (b := .int .i64 o) (c := .string ⟨#[]⟩) (by simp)
        obtain ⟨qa1, qb1, qc1⟩ := SB.cells hJ.s (n := w12.heap.size) (a := .int .i64 1) (b := .int .i64 X) (c := .string ⟨#[]⟩) (by simp)
        obtain ⟨qa2, qb2, qc2⟩ := SB.cells hJ.s (n := w14.heap.size) (a := .int .i64 1) (b := .int .i64 Y) (c := .string ⟨#[]⟩) (by simp)
        clear he hl hJ
        first | (go_simp; done) | (go_simp; rfl)
      · intro l ds W ρ hρ hl he hJ
        have e12 : ρ (.tmp 12) = .pointer (some ⟨w14.heap.size, 0, none⟩) := by rw [hρ]; rfl
        have ec := rho_const hρ
        clear hρ
        refine Gives.value (u := .agg #[.int .i64 1, .int .i64 Y, .string ⟨#[]⟩]) (X' := W) ?_ ⟨0, fun _ => rfl, hJ.pure 7 0 (by decide) (by decide) (by decide) (by decide)⟩
        obtain ⟨qa0, qb0, qc0⟩ := SB.cells hJ.s (n := O1) (a := .int .i64 2) (b := .int .i64 o) (c := .string ⟨#[]⟩) (by simp)
        obtain ⟨qa1, qb1, qc1⟩ := SB.cells hJ.s (n := w12.heap.size) (a := .int .i64 1) (b := .int .i64 X) (c := .string ⟨#[]⟩) (by simp)
        obtain ⟨qa2, qb2, qc2⟩ := SB.cells hJ.s (n := w14.heap.size) (a := .int .i64 1) (b := .int .i64 Y) (c := .string ⟨#[]⟩) (by simp)
        clear he hl hJ
        first | (go_simp; done) | (go_simp; rfl)
      · intro l ds W ρ hρ hl he hJ
        have e213 : ρ (.tmp 213) = .agg #[.int .i64 2, .int .i64 o, .string ⟨#[]⟩] := by rw [hρ]; rfl
        have e214 : ρ (.tmp 214) = .agg #[.int .i64 1, .int .i64 X, .string ⟨#[]⟩] := by rw [hρ]; rfl
        have e215 : ρ (.tmp 215) = .agg #[.int .i64 1, .int .i64 Y, .string ⟨#[]⟩] := by rw [hρ]; rfl
        have ec := rho_const hρ
        clear hρ
        refine Gives.value (u := .slice (some ⟨W.heap.size, 0, none⟩) 3 3) (X' := W.alloc (.cells #[.int .i64 2, .int .i64 o, .string ⟨#[]⟩, .int .i64 1, .int .i64 X, .string ⟨#[]⟩, .int .i64 1, .int .i64 Y, .string ⟨#[]⟩] 48)) ?_ ⟨W.heap.size, fun _ => rfl, hJ.allocB (by decide) (by decide) (by decide) (by decide)⟩
        clear he hl hJ
        first | (go_simp; done) | (go_simp; rfl)
      · intro l ds W ρ hρ hl he hJ
        have e212 : ρ (.tmp 212) = .slice (some ⟨ds 4, 0, none⟩) 4 4 := by rw [hρ]; rfl
        have e216 : ρ (.tmp 216) = .slice (some ⟨ds 8, 0, none⟩) 3 3 := by rw [hρ]; rfl
        have ec := rho_const hρ
        have ef := rho_func hρ
        clear hρ
        have hA := hJ.hA (he ⟨4, .data⟩ (by simp) rfl) hl
        have hBB := hJ.hB (he ⟨8, .data⟩ (by simp) rfl) hl
        refine Gives.call (f := 28) (args := #[.slice (some ⟨ds 4, 0, none⟩) 4 4, .slice (some ⟨ds 8, 0, none⟩) 3 3]) (X' := W) ?_ ?_
        · clear he hl hJ hA hBB
          first | (go_simp; done) | (go_simp; rfl)
        · refine (val_ch o X Y cn HRP2.out HX.out HY.out HCN.out (ds 4) (ds 8) W hA hBB).mono ?_
          rintro e Y ⟨rfl, hbY⟩
          exact ⟨_, rfl, 0, fun _ => rfl, hJ.grow hbY 9 0 (by decide) (by decide) (by decide) (by decide)⟩
      · intro l ds W ρ hρ hl he hJ
        have e217 : ρ (.tmp 217) = .tuple #[.agg #[.int .i64 1, .int .i64 cn, .string ⟨#[]⟩], .bool true, .int .i64 0] := by rw [hρ]; rfl
        have ec := rho_const hρ
        clear hρ
        refine Gives.value (u := .tuple #[.agg #[.int .i64 1, .int .i64 cn, .string ⟨#[]⟩], .bool true, .int .i64 0]) (X' := W) ?_ ⟨0, fun _ => rfl, hJ.pure 10 0 (by decide) (by decide) (by decide) (by decide)⟩
        clear he hl hJ
        first | (go_simp; done) | (go_simp; rfl)
      · intro l ds W ρ hρ hl he hJ
        have e207 : ρ (.tmp 207) = .tuple #[.agg #[.int .i64 1, .int .i64 cn, .string ⟨#[]⟩], .bool true, .int .i64 0] := by rw [hρ]; rfl
        have ec := rho_const hρ
        clear hρ
        refine Gives.value (u := .agg #[.int .i64 1, .int .i64 cn, .string ⟨#[]⟩]) (X' := W) ?_ ⟨0, fun _ => rfl, hJ.pure 11 0 (by decide) (by decide) (by decide) (by decide)⟩
        clear he hl hJ
        first | (go_simp; done) | (go_simp; rfl)
      · intro l ds W ρ hρ hl he hJ
        have e207 : ρ (.tmp 207) = .tuple #[.agg #[.int .i64 1, .int .i64 cn, .string ⟨#[]⟩], .bool true, .int .i64 0] := by rw [hρ]; rfl
        have ec := rho_const hρ
        clear hρ
        refine Gives.value (u := .bool true) (X' := W) ?_ ⟨0, fun _ => rfl, hJ.pure 12 0 (by decide) (by decide) (by decide) (by decide)⟩
        clear he hl hJ
        first | (go_simp; done) | (go_simp; rfl)
      · intro l ds W ρ hρ hl he hJ
        have e207 : ρ (.tmp 207) = .tuple #[.agg #[.int .i64 1, .int .i64 cn, .string ⟨#[]⟩], .bool true, .int .i64 0] := by rw [hρ]; rfl
        have ec := rho_const hρ
        clear hρ
        refine Gives.value (u := .int .i64 0) (X' := W) ?_ ⟨0, fun _ => rfl, hJ.pure 13 0 (by decide) (by decide) (by decide) (by decide)⟩
        clear he hl hJ
        first | (go_simp; done) | (go_simp; rfl)
      · intro l ds W ρ hρ hl he hJ
        have ec := rho_const hρ
        clear hρ
        refine Gives.value (u := .pointer (some ⟨W.heap.size, 0, none⟩)) (X' := W.alloc (.cells #[.int .i64 0, .int .i64 0, .string ⟨#[]⟩] 48)) ?_ ⟨W.heap.size, fun _ => rfl, hJ.allocD (by decide) (by decide) (by decide) (by decide) hl⟩
        clear he hl hJ
        first | (go_simp; done) | (go_simp; rfl)
      · intro l ds W ρ hρ hl he hJ
        have e29 : ρ (.tmp 29) = .pointer (some ⟨ds 14, 0, none⟩) := by rw [hρ]; rfl
        have e218 : ρ (.tmp 218) = .agg #[.int .i64 1, .int .i64 cn, .string ⟨#[]⟩] := by rw [hρ]; rfl
        have ec := rho_const hρ
        clear hρ
        have hD := hJ.hD (he ⟨14, .data⟩ (by simp) rfl) hl
        obtain ⟨za0, za1, za2, ya0, ya1, ya2⟩ := Box3.cells hD
        refine Gives.skip (X' := ((W.setCell ⟨ds 14, 0, none⟩ (.int .i64 1)).setCell ⟨ds 14, 1, none⟩ (.int .i64 cn)).setCell ⟨ds 14, 2, none⟩ (.string ⟨#[]⟩)) ?_ ⟨0, fun h => absurd rfl h, hJ.store 0 (by decide) (by decide) (he ⟨9, .chain⟩ (by simp) rfl) (he ⟨14, .data⟩ (by simp) rfl) hl hl0.out⟩
        clear he hl hJ hD
        first | (go_simp; done) | (go_simp; rfl)
      · intro l ds W ρ hρ hl he hJ
        have e219 : ρ (.tmp 219) = .bool true := by rw [hρ]; rfl
        have ec := rho_const hρ
        clear hρ
        refine Gives.value (u := .bool true) (X' := W) ?_ ⟨0, fun _ => rfl, hJ.pure 16 0 (by decide) (by decide) (by decide) (by decide)⟩
        clear he hl hJ
        first | (go_simp; done) | (go_simp; rfl)
      · intro l ds W ρ hρ hl he hJ
        have e220 : ρ (.tmp 220) = .int .i64 0 := by rw [hρ]; rfl
        have ec := rho_const hρ
        clear hρ
        refine Gives.value (u := .int .i64 0) (X' := W) ?_ ⟨0, fun _ => rfl, hJ.pure 17 0 (by decide) (by decide) (by decide) (by decide)⟩
        clear he hl hJ
        first | (go_simp; done) | (go_simp; rfl)
    · intro lt ds W hlt hJ
      simp only [putAll, Act.put, List.setIfInBounds_toArray, List.set_cons_zero, List.set_cons_succ]
      have hbx := hJ.hE (hlt _ (by decide))
      have hB := hJ.b
      clear hJ hlt
      go_wp2_with fail
      go_meet
      case rel => exact ⟨_, rfl, rfl, rfl, H24.out.more hB hbx⟩
  case rest =>
  obtain ⟨n2, rfl, rfl, rfl, hst⟩ := hcut
  have H25 := Lib.hid hst
  clear hst H24
  go_upto_region 20 with fail
  go_cut [259] from 221 to 259 (fun s259 wx => s259 = .bool false ∧ St w wx [])
  case first =>
    have HS := Lib.hid (H25.out.sub (l' := []) (by intro q hq; simp at hq))
    obtain ⟨ca0, cb0, cc0⟩ := H25.out.cells (n := n2) (a := .int .i64 1) (b := .int .i64 cn) (c := .string ⟨#[]⟩) (by simp)
    obtain ⟨ca1, cb1, cc1⟩ := H25.out.cells (n := n1) (a := .int .i64 2) (b := .int .i64 o) (c := .string ⟨#[]⟩) (by simp)
    obtain ⟨ca2, cb2, cc2⟩ := H25.out.cells (n := O1) (a := .int .i64 2) (b := .int .i64 o) (c := .string ⟨#[]⟩) (by simp)
    obtain ⟨ca3, cb3, cc3⟩ := H25.out.cells (n := w12.heap.size) (a := .int .i64 1) (b := .int .i64 X) (c := .string ⟨#[]⟩) (by simp)
    obtain ⟨ca4, cb4, cc4⟩ := H25.out.cells (n := w14.heap.size) (a := .int .i64 1) (b := .int .i64 Y) (c := .string ⟨#[]⟩) (by simp)
    have hcn := HCN.out
    rcases HRP2.out with ho | ho
    · rw [ho] at hcn
      simp only [show ¬ (0 : Int) = 1 by decide, if_false] at hcn
      subst ho hcn
      go_wp2_with fail
      go_meet
      case rel => exact ⟨rfl, HS.out⟩
    · rw [ho] at hcn
      simp only [if_true] at hcn
      subst ho hcn
      go_wp2_with fail
      go_meet
      case rel => exact ⟨rfl, HS.out⟩
  case rest =>
  obtain ⟨rfl, hst⟩ := hcut
  have H26 := Lib.hid hst
  clear hst H25
  go_upto_region 24 with fail
  obtain ⟨S, hS⟩ : ∃ S, S = s.extract 0 (min (s.size : Int) 40).toNat := ⟨_, rfl⟩
  obtain ⟨T, hT⟩ : ∃ T, T = t.extract 0 (min (t.size : Int) 40).toNat := ⟨_, rfl⟩
  rw [← hS, ← hT]
  have HSS : Hid (S.size ≤ 40) := Lib.hid (by rw [hS, ByteArray.size_extract]; omega)
  have HTT : Hid (T.size ≤ 40) := Lib.hid (by rw [hT, ByteArray.size_extract]; omega)
  clear hS hT
  obtain ⟨ln, hln⟩ : ∃ ln, ln = Pl.lessS S T := ⟨_, rfl⟩
  obtain ⟨mn, hmn⟩ : ∃ mn, mn = Pl.lessS T S := ⟨_, rfl⟩
  obtain ⟨en, hen⟩ : ∃ en, en = Pl.sameS S T := ⟨_, rfl⟩
  have htri : Hid (ln + mn + en = 1 ∧ (0 ≤ ln ∧ ln ≤ 1) ∧ (0 ≤ mn ∧ mn ≤ 1) ∧ (en == 1) = (S.toList == T.toList)) := Lib.hid (by rw [hln, hmn, hen]; refine ⟨Pl.tri_S S T, ?_, ?_, ?_⟩; (unfold Pl.lessS; split <;> omega); (unfold Pl.lessS; split <;> omega); (unfold Pl.sameS; cases h : (S.toList == T.toList) <;> rfl))
  have HLN := Lib.hid hln
  have HMN := Lib.hid hmn
  have HEN := Lib.hid hen
  clear hln hmn hen
  have hu := (H26.out.new (.int .i64 3) (.int .i64 0) (.string S)).new (.int .i64 3) (.int .i64 0) (.string T)
  have hsz : (wc.alloc (.cells #[.int .i64 3, .int .i64 0, .string S] 48)).heap.size = wc.heap.size + 1 := by simp
  rw [hsz] at hu
  obtain ⟨U, hU⟩ : ∃ U, U = wc.heap.size := ⟨_, rfl⟩
  rw [← hU] at hu ⊢
  clear hsz hU H26
  have H27 := Lib.hid hu
  clear hu
  generalize (wc.alloc (.cells #[.int .i64 3, .int .i64 0, .string S] 48)).alloc (.cells #[.int .i64 3, .int .i64 0, .string T] 48) = w27 at H27 ⊢
  obtain ⟨ca0, cb0, cc0⟩ := H27.out.cells (n := U) (a := .int .i64 3) (b := .int .i64 0) (c := .string S) (by simp)
  obtain ⟨ca1, cb1, cc1⟩ := H27.out.cells (n := (U + 1)) (a := .int .i64 3) (b := .int .i64 0) (c := .string T) (by simp)
  go_wp2_with fail
  clear ca0 cb0 cc0 ca1 cb1 cc1
  refine (of_less S T ln _ HSS.out HTT.out HLN).mono ?_
  rintro e w28 ⟨rfl, hb⟩
  have H28 := Lib.hid ((H27.out.keep hb).new (.int .i64 2) (.int .i64 ln) (.string ⟨#[]⟩))
  clear hb H27
  obtain ⟨ca0, cb0, cc0⟩ := H28.out.cells (n := U) (a := .int .i64 3) (b := .int .i64 0) (c := .string S) (by simp)
  obtain ⟨ca1, cb1, cc1⟩ := H28.out.cells (n := (U + 1)) (a := .int .i64 3) (b := .int .i64 0) (c := .string T) (by simp)
  go_wp2_with fail
  clear ca0 cb0 cc0 ca1 cb1 cc1
  refine (of_less T S mn _ HTT.out HSS.out HMN).mono ?_
  rintro e w29 ⟨rfl, hb⟩
  have H29 := Lib.hid ((H28.out.keep hb).new (.int .i64 2) (.int .i64 mn) (.string ⟨#[]⟩))
  clear hb H28
  obtain ⟨ca0, cb0, cc0⟩ := H29.out.cells (n := U) (a := .int .i64 3) (b := .int .i64 0) (c := .string S) (by simp)
  obtain ⟨ca1, cb1, cc1⟩ := H29.out.cells (n := (U + 1)) (a := .int .i64 3) (b := .int .i64 0) (c := .string T) (by simp)
  go_wp2_with fail
  clear ca0 cb0 cc0 ca1 cb1 cc1
  refine (of_same S T en _ HSS.out HTT.out HEN).mono ?_
  rintro e w30 ⟨rfl, hb⟩
  have H30 := Lib.hid ((H29.out.keep hb).new (.int .i64 2) (.int .i64 en) (.string ⟨#[]⟩))
  clear hb H29
  obtain ⟨ca0, cb0, cc0⟩ := H30.out.cells (n := U) (a := .int .i64 3) (b := .int .i64 0) (c := .string S) (by simp)
  obtain ⟨ca1, cb1, cc1⟩ := H30.out.cells (n := (U + 1)) (a := .int .i64 3) (b := .int .i64 0) (c := .string T) (by simp)
  go_wp2_with fail
  clear ca0 cb0 cc0 ca1 cb1 cc1
  refine (of_cat S T _ HSS.out HTT.out).mono ?_
  rintro e w31 ⟨rfl, hb⟩
  have H31 := Lib.hid ((H30.out.keep hb).new (.int .i64 3) (.int .i64 0) (.string (S ++ T)))
  clear hb H30
  go_upto_region 28 with fail
  go_cut [339] from 296 to 339 (fun s339 wx => s339 = .bool false ∧ St w wx [(U, .int .i64 3, .int .i64 0, .string S), ((U + 1), .int .i64 3, .int .i64 0, .string T)])
  case first =>
    have HS := Lib.hid (H31.out.sub (l' := [(U, .int .i64 3, .int .i64 0, .string S), ((U + 1), .int .i64 3, .int .i64 0, .string T)]) (by intro q hq; simp at hq; rcases hq with rfl | rfl <;> simp))
    obtain ⟨ca0, cb0, cc0⟩ := H31.out.cells (n := U) (a := .int .i64 3) (b := .int .i64 0) (c := .string S) (by simp)
    obtain ⟨ca1, cb1, cc1⟩ := H31.out.cells (n := (U + 1)) (a := .int .i64 3) (b := .int .i64 0) (c := .string T) (by simp)
    obtain ⟨ca2, cb2, cc2⟩ := H31.out.cells (n := w28.heap.size) (a := .int .i64 2) (b := .int .i64 ln) (c := .string ⟨#[]⟩) (by simp)
    obtain ⟨ca3, cb3, cc3⟩ := H31.out.cells (n := w29.heap.size) (a := .int .i64 2) (b := .int .i64 mn) (c := .string ⟨#[]⟩) (by simp)
    obtain ⟨ca4, cb4, cc4⟩ := H31.out.cells (n := w30.heap.size) (a := .int .i64 2) (b := .int .i64 en) (c := .string ⟨#[]⟩) (by simp)
    obtain ⟨ca5, cb5, cc5⟩ := H31.out.cells (n := w31.heap.size) (a := .int .i64 3) (b := .int .i64 0) (c := .string (S ++ T)) (by simp)
    obtain ⟨t1, t2, t3, t4⟩ := htri.out
    obtain ⟨lm, hlm⟩ : ∃ lm, lm = ln + mn := ⟨_, rfl⟩
    have y1 : IntKind.i64.wrap (ln + mn) = lm := by rw [IntKind.wrap_i64]; omega
    have y2 : IntKind.i64.wrap (lm + en) = 1 := by rw [IntKind.wrap_i64]; omega
    clear t1 t2 t3 hlm
    have s1 := HSS.out
    have s2 := HTT.out
    by_cases h3 : S.toList = T.toList
    · have t5 : (en == 1) = true := by rw [t4]; simp [h3]
      have HT4 := Lib.hid t4
      clear t4
      go_quiet (fail)
      go_wp2_with fail
      go_meet
      case rel => exact ⟨rfl, HS.out.keep (below_drewN' (Below.refl _ _) _)⟩
    · have t5 : (en == 1) = false := by rw [t4]; simp [h3]
      have HT4 := Lib.hid t4
      clear t4
      go_quiet (fail)
      go_wp2_with fail
      go_meet
      case rel => exact ⟨rfl, HS.out.keep (below_drewN' (Below.refl _ _) _)⟩
  case rest =>
  obtain ⟨rfl, hst⟩ := hcut
  have H32 := Lib.hid hst
  clear hst H31
  go_upto_region 30 with fail
  obtain ⟨z, hz⟩ : ∃ z : Int, z = (S ++ T).size := ⟨_, rfl⟩
  have HZZ := Lib.hid hz
  clear hz
  go_cut [42, 43, 44] from 340 to 352 (fun s42 s43 s44 wx => ∃ n : Nat, s42 = .pointer (some ⟨n, 0, none⟩) ∧ s43 = .bool true ∧ s44 = .int .i64 0 ∧ St w wx [(n, .int .i64 1, .int .i64 z, .string ⟨#[]⟩), (U, .int .i64 3, .int .i64 0, .string S), ((U + 1), .int .i64 3, .int .i64 0, .string T)])
  case first =>
    have hl0 : Hid (∀ q ∈ ([(U, .int .i64 3, .int .i64 0, .string S), ((U + 1), .int .i64 3, .int .i64 0, .string T)] : List (Nat × Value × Value × Value)), q.1 < wc.heap.size) := Lib.hid (fun q hq => ((show SB [(U, .int .i64 3, .int .i64 0, .string S), ((U + 1), .int .i64 3, .int .i64 0, .string T)] wc from (H32.out.sub (l' := [(U, .int .i64 3, .int .i64 0, .string S), ((U + 1), .int .i64 3, .int .i64 0, .string T)]) (by intro q hq; simp at hq; rcases hq with rfl | rfl <;> simp)).1) q.1 q.2.1 q.2.2.1 q.2.2.2 hq).lt)
    have hSB : Hid (SB [(U, .int .i64 3, .int .i64 0, .string S), ((U + 1), .int .i64 3, .int .i64 0, .string T)] wc) := Lib.hid (H32.out.sub (l' := [(U, .int .i64 3, .int .i64 0, .string S), ((U + 1), .int .i64 3, .int .i64 0, .string T)]) (by intro q hq; simp at hq; rcases hq with rfl | rfl <;> simp)).1
    refine rg_region [(341, 0), (342, 1), (343, 2), (344, 3), (345, 4), (346, 5), (347, 6), (348, 7), (349, 8), (340, 9), (350, 10), (351, 11), (352, 12), (42, 13), (43, 15), (44, 16)] [32, 33] 370 (fun i d => match i with | 0 => .agg #[.int .i64 7, .int .i64 0, .string ⟨#[]⟩] | 1 => .agg #[.int .i64 8, .int .i64 0, .string ⟨#[]⟩] | 2 => .agg #[.int .i64 4, .int .i64 0, .string ⟨#[115]⟩] | 3 => .agg #[.int .i64 4, .int .i64 0, .string ⟨#[115, 49]⟩] | 4 => .slice (some ⟨d, 0, none⟩) 4 4 | 5 => .agg #[.int .i64 3, .int .i64 0, .string S] | 6 => .agg #[.int .i64 3, .int .i64 0, .string T] | 7 => .slice (some ⟨d, 0, none⟩) 2 2 | 8 => .tuple #[.agg #[.int .i64 1, .int .i64 z, .string ⟨#[]⟩], .bool true, .int .i64 0] | 9 => .tuple #[.agg #[.int .i64 1, .int .i64 z, .string ⟨#[]⟩], .bool true, .int .i64 0] | 10 => .agg #[.int .i64 1, .int .i64 z, .string ⟨#[]⟩] | 11 => .bool true | 12 => .int .i64 0 | 13 => .pointer (some ⟨d, 0, none⟩) | 15 => .bool true | 16 => .int .i64 0 | _ => undef) (fun t => match t with | 32 => .pointer (some ⟨U, 0, none⟩) | 33 => .pointer (some ⟨U + 1, 0, none⟩) | _ => undef) (JJ wc [(U, .int .i64 3, .int .i64 0, .string S), ((U + 1), .int .i64 3, .int .i64 0, .string T)] 4 7 8 13 14 #[.int .i64 7, .int .i64 0, .string ⟨#[]⟩, .int .i64 8, .int .i64 0, .string ⟨#[]⟩, .int .i64 4, .int .i64 0, .string ⟨#[115]⟩, .int .i64 4, .int .i64 0, .string ⟨#[115, 49]⟩] #[.int .i64 3, .int .i64 0, .string S, .int .i64 3, .int .i64 0, .string T] (.int .i64 1) (.int .i64 z) (.string ⟨#[]⟩)) (by kernel_rfl) rfl (by kernel_rfl) ?_ (JJ.start (hSB.out.below (below_drewN' (Below.refl _ _) 1))) ?_ ?_
    · intro t ht; simp at ht; rcases ht with rfl | rfl <;> rfl
    · refine ⟨?_, ?_, ?_, ?_, ?_, ?_, ?_, ?_, ?_, ?_, ?_, ?_, ?_, ?_, ?_, ?_, ?_, trivial⟩
      · intro l ds W ρ hρ hl he hJ
        have ec := rho_const hρ
        clear hρ
        refine Gives.value (u := .agg #[.int .i64 7, .int .i64 0, .string ⟨#[]⟩]) (X' := W) ?_ ⟨0, fun _ => rfl, hJ.pure 0 0 (by decide) (by decide) (by decide) (by decide)⟩
        clear he hl hJ
        first | (go_simp; done) | (go_simp; rfl)
      · intro l ds W ρ hρ hl he hJ
        have ec := rho_const hρ
        clear hρ
        refine Gives.value (u := .agg #[.int .i64 8, .int .i64 0, .string ⟨#[]⟩]) (X' := W) ?_ ⟨0, fun _ => rfl, hJ.pure 1 0 (by decide) (by decide) (by decide) (by decide)⟩
        clear he hl hJ
        first | (go_simp; done) | (go_simp; rfl)
      · intro l ds W ρ hρ hl he hJ
        have ec := rho_const hρ
        have ef := rho_func hρ
        clear hρ
        refine Gives.call (f := 33) (args := #[.string ⟨#[115]⟩]) (X' := W) ?_ ?_
        · clear he hl hJ
          first | (go_simp; done) | (go_simp; rfl)
        · refine (name_is _ _).mono ?_
          rintro e Y ⟨rfl, hbY⟩
          exact ⟨_, rfl, 0, fun _ => rfl, hJ.grow hbY 2 0 (by decide) (by decide) (by decide) (by decide)⟩
      · intro l ds W ρ hρ hl he hJ
        have ec := rho_const hρ
        have ef := rho_func hρ
        clear hρ
        refine Gives.call (f := 33) (args := #[.string ⟨#[115, 49]⟩]) (X' := W) ?_ ?_
        · clear he hl hJ
          first | (go_simp; done) | (go_simp; rfl)
        · refine (name_is _ _).mono ?_
          rintro e Y ⟨rfl, hbY⟩
          exact ⟨_, rfl, 0, fun _ => rfl, hJ.grow hbY 3 0 (by decide) (by decide) (by decide) (by decide)⟩
      · intro l ds W ρ hρ hl he hJ
        have e341 : ρ (.tmp 341) = .agg #[.int .i64 7, .int .i64 0, .string ⟨#[]⟩] := by rw [hρ]; rfl
        have e342 : ρ (.tmp 342) = .agg #[.int .i64 8, .int .i64 0, .string ⟨#[]⟩] := by rw [hρ]; rfl
        have e343 : ρ (.tmp 343) = .agg #[.int .i64 4, .int .i64 0, .string ⟨#[115]⟩] := by rw [hρ]; rfl
        have e344 : ρ (.tmp 344) = .agg #[.int .i64 4, .int .i64 0, .string ⟨#[115, 49]⟩] := by rw [hρ]; rfl
        have ec := rho_const hρ
        clear hρ
        refine Gives.value (u := .slice (some ⟨W.heap.size, 0, none⟩) 4 4) (X' := W.alloc (.cells #[.int .i64 7, .int .i64 0, .string ⟨#[]⟩, .int .i64 8, .int .i64 0, .string ⟨#[]⟩, .int .i64 4, .int .i64 0, .string ⟨#[115]⟩, .int .i64 4, .int .i64 0, .string ⟨#[115, 49]⟩] 24)) ?_ ⟨W.heap.size, fun _ => rfl, hJ.allocA (by decide) (by decide) (by decide) (by decide)⟩
        clear he hl hJ
        first | (go_simp; done) | (go_simp; rfl)
      · intro l ds W ρ hρ hl he hJ
        have e32 : ρ (.tmp 32) = .pointer (some ⟨U, 0, none⟩) := by rw [hρ]; rfl
        have ec := rho_const hρ
        clear hρ
        refine Gives.value (u := .agg #[.int .i64 3, .int .i64 0, .string S]) (X' := W) ?_ ⟨0, fun _ => rfl, hJ.pure 5 0 (by decide) (by decide) (by decide) (by decide)⟩
        obtain ⟨qa0, qb0, qc0⟩ := SB.cells hJ.s (n := U) (a := .int .i64 3) (b := .int .i64 0) (c := .string S) (by simp)
        obtain ⟨qa1, qb1, qc1⟩ := SB.cells hJ.s (n := (U + 1)) (a := .int .i64 3) (b := .int .i64 0) (c := .string T) (by simp)
        clear he hl hJ
        first | (go_simp; done) | (go_simp; rfl)
      · intro l ds W ρ hρ hl he hJ
        have e33 : ρ (.tmp 33) = .pointer (some ⟨U + 1, 0, none⟩) := by rw [hρ]; rfl
        have ec := rho_const hρ
        clear hρ
        refine Gives.value (u := .agg #[.int .i64 3, .int .i64 0, .string T]) (X' := W) ?_ ⟨0, fun _ => rfl, hJ.pure 6 0 (by decide) (by decide) (by decide) (by decide)⟩
        obtain ⟨qa0, qb0, qc0⟩ := SB.cells hJ.s (n := U) (a := .int .i64 3) (b := .int .i64 0) (c := .string S) (by simp)
        obtain ⟨qa1, qb1, qc1⟩ := SB.cells hJ.s (n := (U + 1)) (a := .int .i64 3) (b := .int .i64 0) (c := .string T) (by simp)
        clear he hl hJ
        first | (go_simp; done) | (go_simp; rfl)
      · intro l ds W ρ hρ hl he hJ
        have e346 : ρ (.tmp 346) = .agg #[.int .i64 3, .int .i64 0, .string S] := by rw [hρ]; rfl
        have e347 : ρ (.tmp 347) = .agg #[.int .i64 3, .int .i64 0, .string T] := by rw [hρ]; rfl
        have ec := rho_const hρ
        clear hρ
        refine Gives.value (u := .slice (some ⟨W.heap.size, 0, none⟩) 2 2) (X' := W.alloc (.cells #[.int .i64 3, .int .i64 0, .string S, .int .i64 3, .int .i64 0, .string T] 48)) ?_ ⟨W.heap.size, fun _ => rfl, hJ.allocB (by decide) (by decide) (by decide) (by decide)⟩
        clear he hl hJ
        first | (go_simp; done) | (go_simp; rfl)
      · intro l ds W ρ hρ hl he hJ
        have e345 : ρ (.tmp 345) = .slice (some ⟨ds 4, 0, none⟩) 4 4 := by rw [hρ]; rfl
        have e348 : ρ (.tmp 348) = .slice (some ⟨ds 7, 0, none⟩) 2 2 := by rw [hρ]; rfl
        have ec := rho_const hρ
        have ef := rho_func hρ
        clear hρ
        have hA := hJ.hA (he ⟨4, .data⟩ (by simp) rfl) hl
        have hBB := hJ.hB (he ⟨7, .data⟩ (by simp) rfl) hl
        refine Gives.call (f := 28) (args := #[.slice (some ⟨ds 4, 0, none⟩) 4 4, .slice (some ⟨ds 7, 0, none⟩) 2 2]) (X' := W) ?_ ?_
        · clear he hl hJ hA hBB
          first | (go_simp; done) | (go_simp; rfl)
        · refine (val_ln S T z HSS.out HTT.out HZZ.out (ds 4) (ds 7) W hA hBB).mono ?_
          rintro e Y ⟨rfl, hbY⟩
          exact ⟨_, rfl, 0, fun _ => rfl, hJ.grow hbY 8 0 (by decide) (by decide) (by decide) (by decide)⟩
      · intro l ds W ρ hρ hl he hJ
        have e349 : ρ (.tmp 349) = .tuple #[.agg #[.int .i64 1, .int .i64 z, .string ⟨#[]⟩], .bool true, .int .i64 0] := by rw [hρ]; rfl
        have ec := rho_const hρ
        clear hρ
        refine Gives.value (u := .tuple #[.agg #[.int .i64 1, .int .i64 z, .string ⟨#[]⟩], .bool true, .int .i64 0]) (X' := W) ?_ ⟨0, fun _ => rfl, hJ.pure 9 0 (by decide) (by decide) (by decide) (by decide)⟩
        clear he hl hJ
        first | (go_simp; done) | (go_simp; rfl)
      · intro l ds W ρ hρ hl he hJ
        have e340 : ρ (.tmp 340) = .tuple #[.agg #[.int .i64 1, .int .i64 z, .string ⟨#[]⟩], .bool true, .int .i64 0] := by rw [hρ]; rfl
        have ec := rho_const hρ
        clear hρ
        refine Gives.value (u := .agg #[.int .i64 1, .int .i64 z, .string ⟨#[]⟩]) (X' := W) ?_ ⟨0, fun _ => rfl, hJ.pure 10 0 (by decide) (by decide) (by decide) (by decide)⟩
        clear he hl hJ
        first | (go_simp; done) | (go_simp; rfl)
      · intro l ds W ρ hρ hl he hJ
        have e340 : ρ (.tmp 340) = .tuple #[.agg #[.int .i64 1, .int .i64 z, .string ⟨#[]⟩], .bool true, .int .i64 0] := by rw [hρ]; rfl
        have ec := rho_const hρ
        clear hρ
        refine Gives.value (u := .bool true) (X' := W) ?_ ⟨0, fun _ => rfl, hJ.pure 11 0 (by decide) (by decide) (by decide) (by decide)⟩
        clear he hl hJ
        first | (go_simp; done) | (go_simp; rfl)
      · intro l ds W ρ hρ hl he hJ
        have e340 : ρ (.tmp 340) = .tuple #[.agg #[.int .i64 1, .int .i64 z, .string ⟨#[]⟩], .bool true, .int .i64 0] := by rw [hρ]; rfl
        have ec := rho_const hρ
        clear hρ
        refine Gives.value (u := .int .i64 0) (X' := W) ?_ ⟨0, fun _ => rfl, hJ.pure 12 0 (by decide) (by decide) (by decide) (by decide)⟩
        clear he hl hJ
        first | (go_simp; done) | (go_simp; rfl)
      · intro l ds W ρ hρ hl he hJ
        have ec := rho_const hρ
        clear hρ
        refine Gives.value (u := .pointer (some ⟨W.heap.size, 0, none⟩)) (X' := W.alloc (.cells #[.int .i64 0, .int .i64 0, .string ⟨#[]⟩] 48)) ?_ ⟨W.heap.size, fun _ => rfl, hJ.allocD (by decide) (by decide) (by decide) (by decide) hl⟩
        clear he hl hJ
        first | (go_simp; done) | (go_simp; rfl)
      · intro l ds W ρ hρ hl he hJ
        have e42 : ρ (.tmp 42) = .pointer (some ⟨ds 13, 0, none⟩) := by rw [hρ]; rfl
        have e350 : ρ (.tmp 350) = .agg #[.int .i64 1, .int .i64 z, .string ⟨#[]⟩] := by rw [hρ]; rfl
        have ec := rho_const hρ
        clear hρ
        have hD := hJ.hD (he ⟨13, .data⟩ (by simp) rfl) hl
        obtain ⟨za0, za1, za2, ya0, ya1, ya2⟩ := Box3.cells hD
        refine Gives.skip (X' := ((W.setCell ⟨ds 13, 0, none⟩ (.int .i64 1)).setCell ⟨ds 13, 1, none⟩ (.int .i64 z)).setCell ⟨ds 13, 2, none⟩ (.string ⟨#[]⟩)) ?_ ⟨0, fun h => absurd rfl h, hJ.store 0 (by decide) (by decide) (he ⟨8, .chain⟩ (by simp) rfl) (he ⟨13, .data⟩ (by simp) rfl) hl hl0.out⟩
        clear he hl hJ hD
        first | (go_simp; done) | (go_simp; rfl)
      · intro l ds W ρ hρ hl he hJ
        have e351 : ρ (.tmp 351) = .bool true := by rw [hρ]; rfl
        have ec := rho_const hρ
        clear hρ
        refine Gives.value (u := .bool true) (X' := W) ?_ ⟨0, fun _ => rfl, hJ.pure 15 0 (by decide) (by decide) (by decide) (by decide)⟩
        clear he hl hJ
        first | (go_simp; done) | (go_simp; rfl)
      · intro l ds W ρ hρ hl he hJ
        have e352 : ρ (.tmp 352) = .int .i64 0 := by rw [hρ]; rfl
        have ec := rho_const hρ
        clear hρ
        refine Gives.value (u := .int .i64 0) (X' := W) ?_ ⟨0, fun _ => rfl, hJ.pure 16 0 (by decide) (by decide) (by decide) (by decide)⟩
        clear he hl hJ
        first | (go_simp; done) | (go_simp; rfl)
    · intro lt ds W hlt hJ
      simp only [putAll, Act.put, List.setIfInBounds_toArray, List.set_cons_zero, List.set_cons_succ]
      have hbx := hJ.hE (hlt _ (by decide))
      have hB := hJ.b
      clear hJ hlt
      go_wp2_with fail
      go_meet
      case rel => exact ⟨_, rfl, rfl, rfl, H32.out.more hB hbx⟩
  case rest =>
  obtain ⟨n3, rfl, rfl, rfl, hst⟩ := hcut
  have H33 := Lib.hid hst
  clear hst H32
  go_upto_region 31 with fail
  have H39 : Hid (St w wc.drew [(n3, .int .i64 1, .int .i64 z, .string ⟨#[]⟩), (U, .int .i64 3, .int .i64 0, .string S), ((U + 1), .int .i64 3, .int .i64 0, .string T)]) := Lib.hid (H33.out.keep (below_drewN' (Below.refl _ _) 1))
  obtain ⟨pa0, pa1, pa2⟩ := H39.out.cells (n := n3) (a := .int .i64 1) (b := .int .i64 z) (c := .string ⟨#[]⟩) (by simp)
  obtain ⟨_, _, pa5⟩ := H39.out.cells (n := U) (a := .int .i64 3) (b := .int .i64 0) (c := .string S) (by simp)
  obtain ⟨_, _, pa8⟩ := H39.out.cells (n := U + 1) (a := .int .i64 3) (b := .int .i64 0) (c := .string T) (by simp)
  have y9 : IntKind.i64.wrap ((S.size : Int) + T.size) = z := by have h1 := HSS.out; have h2 := HTT.out; have h3 := HZZ.out; rw [ByteArray.size_append] at h3; rw [IntKind.wrap_i64]; omega
  clear H33
  go_region_held3 (fun w' => w'.cell? ⟨n3, 0, none⟩ = some (.int .i64 1) ∧ w'.cell? ⟨n3, 1, none⟩ = some (.int .i64 z) ∧ w'.cell? ⟨n3, 2, none⟩ = some (.string ⟨#[]⟩) ∧ w'.cell? ⟨U, 2, none⟩ = some (.string S) ∧ w'.cell? ⟨U + 1, 2, none⟩ = some (.string T)) (first | exact ⟨pa0, pa1, pa2, pa5, pa8⟩ | exact ⟨ra0, ra1, ra2, ra5, ra8⟩) (first | (go_at_call 34; refine (number_is z _).mono ?_; rintro e w40 ⟨rfl, hb40⟩; have H40 := Lib.hid (H39.out.keep hb40); obtain ⟨ra0, ra1, ra2⟩ := H40.out.cells (n := n3) (a := .int .i64 1) (b := .int .i64 z) (c := .string ⟨#[]⟩) (by simp); obtain ⟨_, _, ra5⟩ := H40.out.cells (n := U) (a := .int .i64 3) (b := .int .i64 0) (c := .string S) (by simp); obtain ⟨_, _, ra8⟩ := H40.out.cells (n := U + 1) (a := .int .i64 3) (b := .int .i64 0) (c := .string T) (by simp); clear hb40))
  all_goals go_wp2_with fail
  all_goals go_ret
  all_goals exact ⟨rfl, H40.out.2⟩
end Go.Proofs.YtchoelgkcnnnkaaGreatDoor
