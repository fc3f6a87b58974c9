/- WALK: FormulaFirstWrong. -/
import Derived.Test.YtchoelgkcnnnkaaGreatDoorGrE
import Derived.Test.YtchoelgkcnnnkaaGreatDoorParseD
import Derived.Test.YtchoelgkcnnnkaaGreatDoorSaneB
import Derived.Test.YtchoelgkcnnnkaaGreatDoorRgC
import Derived.RegionTactic
import Derived.Deep.CutRange
set_option linter.all false
namespace Go.Proofs.YtchoelgkcnnnkaaGreatDoor
open Go.RowKit
theorem wrap_next (x : Int) : -9223372036854775808 ≤ wrap64 x ∧ wrap64 x ≤ 9223372036854775807 := by
  unfold wrap64; omega
set_option maxRecDepth 100000 in
set_option maxHeartbeats 8000000 in
theorem fst_any (t wh fr : Int) (vx vy : Value) (xs ys : List (Int × Int)) (c : UInt8) (w : World) (ht : -9223372036854775808 ≤ t ∧ t ≤ 9223372036854775807) (hw : -9223372036854775808 ≤ wh ∧ wh ≤ 9223372036854775807) (hf : -9223372036854775808 ≤ fr ∧ fr ≤ 9223372036854775807)
    (hx : PairsIn w vx xs) (hxl : xs.length ≤ 9223372036854775807) (hy : PairsIn w vy ys) (hyl : ys.length ≤ 9223372036854775807) (hG : Glob w) :
    Calls Tryz.prog 6 #[.int .i64 t, vx, vy, .int .i64 wh, .int .u8 c.toNat, .int .i64 fr] w fun e w' => e = .returned (.bool true) ∧ Below w.heap.size w w' := by
  obtain ⟨n, hn⟩ : ∃ n : Nat, 100000013 < n := ⟨_, Nat.lt_succ_self _⟩
  have HX := Lib.hid hx
  have HY := Lib.hid hy
  have HG := Lib.hid hG
  have HTB := Lib.hid ht
  have HWB := Lib.hid hw
  have HFB := Lib.hid hf
  have HN := Lib.hid hn
  have HXL := Lib.hid hxl
  have HYL := Lib.hid hyl
  obtain ⟨a, ca, rfl, _⟩ := hx
  obtain ⟨a2, ca2, rfl, _⟩ := hy
  clear hG ht hw hn hf hxl hyl
  go_enter Tryz.func6, Tryz.ntmps6
  go_wp2_with fail
  refine (sane_any _ HG.out).mono ?_
  rintro e w1 ⟨rfl, hb1⟩
  have B1 := Lib.hid hb1
  clear hb1
  go_wp2_with fail
  refine (formula_any t _ xs _ HTB.out (HX.out.below B1.out) HXL.out).mono ?_
  rintro e w2 ⟨f, v, rfl, hg, hT, hb2⟩
  have B2 := Lib.hid (B1.out.trans (hb2.mono B1.out.size))
  have HGR := Lib.hid hg
  have hlen := hg.len
  have hdep := hg.depth
  have hl60 : f.flat.length ≤ 60 := by omega
  have hd12 : f.depth ≤ 12 := by omega
  have htl := Pl.text_len f hg.wf
  have htn : (Pl.text f).length ≠ 0 := by intro e; exact Pl.text_ne f hg.wf (List.length_eq_zero_iff.1 e)
  obtain ⟨T, hTx⟩ : ∃ T, T = mkS (Pl.text f) := ⟨_, rfl⟩
  have hTs : T.size = (Pl.text f).length := by rw [hTx]; rfl
  have hT1 : 1 ≤ T.size := by omega
  have hT2 : T.size ≤ 2700 := by omega
  have hT0 : ((T.size : Int) == 0) = false := by rw [beq_eq_false_iff_ne]; omega
  have HTX := Lib.hid hTx
  have HTF := Lib.hid hT
  clear hg hT hb2 htl htn hTs hTx hlen hdep
  go_wp2_with fail
  refine (print_ok v f _ HTF.out (HG.out.below B2.out (HG.out.size)) HGR.out.wf hl60 hd12).mono ?_
  rintro e w3 ⟨rfl, hb3⟩
  rw [← HTX.out]
  have B3 := Lib.hid (B2.out.trans (hb3.mono B2.out.size))
  clear hb3 HTF
  have HP : Hid (Pl.par n T = (some f, T.size)) := Lib.hid (Pl.par_text HGR.out.wf hd12 hl60 (by have := HN.out; omega) (by rw [HTX.out]; rfl))
  go_wp2_with fail
  obtain ⟨t2, ht2⟩ : ∃ t2, t2 = wrap64 (t + 1) := ⟨_, rfl⟩
  have HT2 : Hid (-9223372036854775808 ≤ t2 ∧ t2 ≤ 9223372036854775807) := Lib.hid (by rw [ht2]; exact wrap_next _)
  rw [← ht2]
  clear ht2
  refine (formula_any t2 _ ys _ HT2.out (HY.out.below B3.out) HYL.out).mono ?_
  rintro e w4 ⟨f2, v2, rfl, hg, hT, hb4⟩
  have B4 := Lib.hid (B3.out.trans (hb4.mono B3.out.size))
  have HGR2 := Lib.hid hg
  have hlen := hg.len
  have hdep := hg.depth
  have hm60 : f2.flat.length ≤ 60 := by omega
  have he12 : f2.depth ≤ 12 := by omega
  have htl := Pl.text_len f2 hg.wf
  have htn : (Pl.text f2).length ≠ 0 := by intro e; exact Pl.text_ne f2 hg.wf (List.length_eq_zero_iff.1 e)
  obtain ⟨U, hUx⟩ : ∃ U, U = mkS (Pl.text f2) := ⟨_, rfl⟩
  have hUs : U.size = (Pl.text f2).length := by rw [hUx]; rfl
  have hU1 : 1 ≤ U.size := by omega
  have hU2 : U.size ≤ 2700 := by omega
  have hU0 : ((U.size : Int) == 0) = false := by rw [beq_eq_false_iff_ne]; omega
  have HUX := Lib.hid hUx
  have HUF := Lib.hid hT
  clear hg hT hb4 htl htn hUs hUx hlen hdep
  go_wp2_with fail
  refine (print_ok v2 f2 _ HUF.out (HG.out.below B4.out (HG.out.size)) HGR2.out.wf hm60 he12).mono ?_
  rintro e w5 ⟨rfl, hb5⟩
  rw [← HUX.out]
  have B5 := Lib.hid (B4.out.trans (hb5.mono B4.out.size))
  clear hb5 HUF
  go_wp2_with fail
  obtain ⟨A, hA⟩ : ∃ A : Nat, (A : Int) = Pl.pickOf wh T.size := ⟨(Pl.pickOf wh T.size).toNat, by have := Pl.pickOf_range wh T.size (by omega); omega⟩
  have hAr := Pl.pickOf_range wh T.size (by omega)
  rw [← hA] at hAr
  have HA := Lib.hid hA
  clear hA
  refine (pick_any wh T.size _ HWB.out.1 HWB.out.2 (by omega) (by omega)).mono ?_
  rintro e w6 ⟨rfl, rfl⟩
  rw [← HA.out]
  have hA1 : A ≤ T.size := by omega
  have hA2 : A + 1 ≤ T.size := by omega
  have hwr : IntKind.i64.wrap ((A : Int) + 1) = (A : Int) + 1 := by rw [IntKind.wrap_i64]; omega
  have htn : ((A : Int) + 1).toNat = A + 1 := by omega
  have k1 : (convert 40 9 (.slice (some ⟨w5.heap.size, 0, none⟩) 1 1)).run Tryz.prog (w5.alloc (.cells #[.int .u8 c.toNat] 5)).drew = .ok (.string ⟨#[c]⟩) (w5.alloc (.cells #[.int .u8 c.toNat] 5)).drew := one_byte w5.drew c.toNat c rfl
  go_upto_region 8 with fail
  go_cut [18] from 65 to 76 (fun s18 wx => s18 = .string (Pl.bent T A c) ∧ Below w.heap.size w wx)
  case first =>
    go_region
    all_goals
      go_wp2_with fail
      go_meet
      case rel => exact ⟨rfl, below_drewN' (bel_alloc B5.out _) 1⟩
  case rest =>
  obtain ⟨rfl, hB⟩ := hcut
  have HB := Lib.hid hB
  obtain ⟨W, hW⟩ : ∃ W, W = wc := ⟨_, rfl⟩
  rw [← hW] at HB ⊢
  have hzs := Pl.bent_size T A c (by omega)
  obtain ⟨z, hz⟩ : ∃ z, z = Pl.bent T A c := ⟨_, rfl⟩
  rw [← hz] at hzs ⊢
  obtain ⟨o, k, hp⟩ : ∃ o k, Pl.par n z = (o, k) := ⟨_, _, rfl⟩
  have HZ := Lib.hid hz
  have HZS := Lib.hid hzs
  have hz1 : z.size ≤ 2700 := by omega
  clear hB hW k1 hwr htn hz hzs
  have HGW := Lib.hid (HG.out.below HB.out HG.out.size)
  cases o with
  | some h =>
    have HPZ := Lib.hid hp
    clear hp
    go_wp2_with fail
    refine (parse_some z (by omega) n _ h (by have := HN.out; omega) _ HGW.out HPZ).mono ?_
    rintro e w7 ⟨v7, rfl, hT7, hb7⟩
    have HB7 := Lib.hid (HB.out.trans (hb7.mono HB.out.size))
    clear hT7 hb7
    go_wp2_with fail
    go_ret
    exact ⟨rfl, HB7.out⟩
  | none =>
    obtain ⟨r1, r2⟩ := Pl.wrong_at (T := T) (A := A) (c := c) (o := none) HP.out (by omega) (by rw [← HZ.out]; exact hp)
    rw [← HZ.out] at r2
    have HPZ := Lib.hid hp
    clear hp
    go_wp2_with fail
    refine (parse_none z (by omega) n k (by have := HN.out; omega) _ HGW.out HPZ).mono ?_
    rintro e w7 ⟨rfl, hb7⟩
    have HB7 := Lib.hid (HB.out.trans (hb7.mono HB.out.size))
    have HG7 := Lib.hid (HG.out.below HB7.out HG.out.size)
    clear hb7
    obtain ⟨y, hy⟩ : ∃ y, y = z.extract 0 k := ⟨_, rfl⟩
    have hys : y.size ≤ 2700 := by rw [hy, ByteArray.size_extract]; omega
    obtain ⟨o2, q2, hp2⟩ : ∃ o2 q2, Pl.par n y = (o2, q2) := ⟨_, _, rfl⟩
    have HYE := Lib.hid hy
    clear hy
    have key : ∀ w8 : World, Below w.heap.size w w8 → Calls Tryz.prog 22 #[.string y] w8 fun e w9 => ∃ (v9 : Value) (q9 e9 : Int), e = .returned (.tuple #[v9, .int .i64 q9, .int .i64 e9]) ∧ (e9 = 0 ∨ (e9 = 150 ∧ q9 = k ∧ v9 = .slice none 0 0)) ∧ (∃ a l c, v9 = .slice a l c) ∧ Below w8.heap.size w8 w9 := by
      intro w8 hb8
      cases o2 with
      | some h2 =>
        exact (parse_some y (by omega) n _ h2 (by have := HN.out; omega) _ (HG.out.below hb8 HG.out.size) hp2).mono fun e w9 ⟨v9, h1, h2, h3⟩ => ⟨v9, q2, 0, h1, .inl rfl, by obtain ⟨a, c, h, _⟩ := h2; exact ⟨a, _, c, h⟩, h3⟩
      | none =>
        have hq := Pl.wrong_cut HPZ.out (by rw [← HYE.out]; exact hp2)
        exact (parse_none y (by omega) n _ (by have := HN.out; omega) _ (HG.out.below hb8 HG.out.size) hp2).mono fun e w9 ⟨h1, h3⟩ => ⟨_, q2, 150, h1, .inr ⟨rfl, by rw [hq], rfl⟩, ⟨none, 0, 0, rfl⟩, h3⟩
    have HKEY := Lib.hid key
    clear key hp2
    go_wp2_with fail
    rw [← HYE.out]
    refine (HKEY.out _ HB7.out).mono ?_
    rintro e w9 ⟨v9, q9, e9, rfl, hcs, ⟨a9, l9, c9, rfl⟩, hb9⟩
    have HB9 := Lib.hid (HB7.out.trans (hb9.mono HB7.out.size))
    clear hb9
    obtain ⟨B, hBv⟩ : ∃ B : Nat, (B : Int) = Pl.pickOf fr U.size := ⟨(Pl.pickOf fr U.size).toNat, by have := Pl.pickOf_range fr U.size (by omega); omega⟩
    have hBr := Pl.pickOf_range fr U.size (by omega)
    rw [← hBv] at hBr
    have HBV := Lib.hid hBv
    have hB1 : B ≤ U.size := by omega
    clear hBv
    have fin : k = z.size ∨ k < z.size := by omega
    have hcs' : e9 = 0 ∨ (e9 = 150 ∧ q9 = k ∧ a9 = none ∧ l9 = 0 ∧ c9 = 0) := by
      rcases hcs with h | ⟨h1, h2, h3⟩
      · exact .inl h
      · simp only [Value.slice.injEq] at h3
        exact .inr ⟨h1, h2, h3⟩
    have hwr : IntKind.i64.wrap ((k : Int) + 1) = (k : Int) + 1 := by rw [IntKind.wrap_i64]; omega
    have htn : ((k : Int) + 1).toNat = k + 1 := by omega
    have HWR := Lib.hid hwr
    have HTN := Lib.hid htn
    clear hcs hwr htn
    rcases fin with hkz | hkz
    · have hkb : ((k : Int) == (z.size : Int)) = true := by rw [hkz]; simp
      have HKZ := Lib.hid hkz
      clear hkz
      rcases hcs' with rfl | ⟨rfl, rfl, rfl, rfl, rfl⟩
      all_goals
        go_wp2_with fail
        go_ret
        exact ⟨rfl, HB9.out⟩
    · have hkb : ((k : Int) == (z.size : Int)) = false := by rw [beq_eq_false_iff_ne]; omega
      rcases hcs' with rfl | ⟨rfl, rfl, rfl, rfl, rfl⟩
      all_goals
        go_upto_region 19 with fail
        go_cut [25, 26, 27] from 118 to 133 (fun s25 s26 s27 wx => s25 = .slice none 0 0 ∧ s26 = .int .i64 k ∧ s27 = .int .i64 150 ∧ Below w.heap.size w wx)
        case first =>
          have hwr := HWR.out
          have htn := HTN.out
          have hz2 : k + 1 ≤ z.size := by omega
          have hz3 : (k : Int) + 1 ≤ (z.size : Int) := by omega
          have hz4 : (0 : Int) ≤ (k : Int) + 1 := by omega
          have hU3 : (1 : Int) ≤ (U.size : Int) := by omega
          have hU4 : (U.size : Int) ≤ 9223372036854775807 := by omega
          have HPM : Hid (Pl.par n (z.extract 0 (k + 1) ++ U.extract B U.size) = (none, k)) := Lib.hid (Pl.wrong_more HPZ.out hkz)
          have HSM : Hid ((z.extract 0 (k + 1) ++ U.extract B U.size).size ≤ 100000000) := Lib.hid (by rw [ByteArray.size_append, ByteArray.size_extract, ByteArray.size_extract]; omega)
          have HSN : Hid ((z.extract 0 (k + 1) ++ U.extract B U.size).size < n) := Lib.hid (by have h1 := HSM.out; have h2 := HN.out; omega)
          have HGD : Hid (Glob w9.drew) := Lib.hid (HG.out.below (below_drewN' HB9.out 1) HG.out.size)
          refine rg_region [(119, 0), (120, 1), (121, 2), (122, 3), (123, 4), (124, 5), (125, 6), (126, 7), (127, 8), (128, 9), (129, 10), (130, 11), (118, 12), (131, 13), (132, 14), (133, 15), (25, 16), (26, 17), (27, 18)] [5, 15, 18, 20] 146 (fun i d => match i with | 0 => .string z | 1 => .int .i64 (k : Int) | 2 => .int .i64 ((k : Int) + 1) | 3 => .string (z.extract 0 (k + 1)) | 4 => .string U | 5 => .int .i64 fr | 6 => .string U | 7 => .int .i64 (U.size : Int) | 8 => .int .i64 (B : Int) | 9 => .string (U.extract B U.size) | 10 => .string (z.extract 0 (k + 1) ++ U.extract B U.size) | 11 => .tuple #[.slice none 0 0, .int .i64 (k : Int), .int .i64 150] | 12 => .tuple #[.slice none 0 0, .int .i64 (k : Int), .int .i64 150] | 13 => .slice none 0 0 | 14 => .int .i64 (k : Int) | 15 => .int .i64 150 | 16 => .slice none 0 0 | 17 => .int .i64 (k : Int) | 18 => .int .i64 150 | _ => undef) (fun t => match t with | 5 => .int .i64 fr | 15 => .string U | 18 => .string z | 20 => .int .i64 (k : Int) | _ => undef) (JB w9) (by kernel_rfl) rfl (by kernel_rfl) ?_ (below_drewN' (Below.refl _ _) 1) ?_ ?_
          · intro t ht; simp at ht; rcases ht with rfl | rfl | rfl | rfl <;> rfl
          · refine ⟨?_, ?_, ?_, ?_, ?_, ?_, ?_, ?_, ?_, ?_, ?_, ?_, ?_, ?_, ?_, ?_, ?_, ?_, ?_, trivial⟩
            · intro l ds X ρ hρ hl he hJ
              have e18 : ρ (.tmp 18) = .string z := by rw [hρ]; rfl
              have ec := rho_const hρ
              clear hρ
              refine Gives.value (u := .string z) (X' := X) ?_ ⟨0, fun _ => rfl, hJ⟩
              clear he hl hJ
              first | (go_simp; done) | (go_simp; omega) | (go_simp; rfl)
            · intro l ds X ρ hρ hl he hJ
              have e20 : ρ (.tmp 20) = .int .i64 (k : Int) := by rw [hρ]; rfl
              have ec := rho_const hρ
              clear hρ
              refine Gives.value (u := .int .i64 (k : Int)) (X' := X) ?_ ⟨0, fun _ => rfl, hJ⟩
              clear he hl hJ
              first | (go_simp; done) | (go_simp; omega) | (go_simp; rfl)
            · intro l ds X ρ hρ hl he hJ
              have e120 : ρ (.tmp 120) = .int .i64 (k : Int) := by rw [hρ]; rfl
              have ec := rho_const hρ
              clear hρ
              refine Gives.value (u := .int .i64 ((k : Int) + 1)) (X' := X) ?_ ⟨0, fun _ => rfl, hJ⟩
              clear he hl hJ
              first | (go_simp; done) | (go_simp; omega) | (go_simp; rfl)
            · intro l ds X ρ hρ hl he hJ
              have e119 : ρ (.tmp 119) = .string z := by rw [hρ]; rfl
              have e121 : ρ (.tmp 121) = .int .i64 ((k : Int) + 1) := by rw [hρ]; rfl
              have ec := rho_const hρ
              clear hρ
              refine Gives.value (u := .string (z.extract 0 (k + 1))) (X' := X) ?_ ⟨0, fun _ => rfl, hJ⟩
              clear he hl hJ
              first | (go_simp; done) | (go_simp; omega) | (go_simp; rfl)
            · intro l ds X ρ hρ hl he hJ
              have e15 : ρ (.tmp 15) = .string U := by rw [hρ]; rfl
              have ec := rho_const hρ
              clear hρ
              refine Gives.value (u := .string U) (X' := X) ?_ ⟨0, fun _ => rfl, hJ⟩
              clear he hl hJ
              first | (go_simp; done) | (go_simp; omega) | (go_simp; rfl)
            · intro l ds X ρ hρ hl he hJ
              have e5 : ρ (.tmp 5) = .int .i64 fr := by rw [hρ]; rfl
              have ec := rho_const hρ
              clear hρ
              refine Gives.value (u := .int .i64 fr) (X' := X) ?_ ⟨0, fun _ => rfl, hJ⟩
              clear he hl hJ
              first | (go_simp; done) | (go_simp; omega) | (go_simp; rfl)
            · intro l ds X ρ hρ hl he hJ
              have e15 : ρ (.tmp 15) = .string U := by rw [hρ]; rfl
              have ec := rho_const hρ
              clear hρ
              refine Gives.value (u := .string U) (X' := X) ?_ ⟨0, fun _ => rfl, hJ⟩
              clear he hl hJ
              first | (go_simp; done) | (go_simp; omega) | (go_simp; rfl)
            · intro l ds X ρ hρ hl he hJ
              have e125 : ρ (.tmp 125) = .string U := by rw [hρ]; rfl
              have ec := rho_const hρ
              clear hρ
              refine Gives.value (u := .int .i64 (U.size : Int)) (X' := X) ?_ ⟨0, fun _ => rfl, hJ⟩
              clear he hl hJ
              first | (go_simp; done) | (go_simp; omega) | (go_simp; rfl)
            · intro l ds X ρ hρ hl he hJ
              have e124 : ρ (.tmp 124) = .int .i64 fr := by rw [hρ]; rfl
              have e126 : ρ (.tmp 126) = .int .i64 (U.size : Int) := by rw [hρ]; rfl
              have ec := rho_const hρ
              have ef := rho_func hρ
              clear hρ
              refine Gives.call (f := 12) (args := #[.int .i64 fr, .int .i64 (U.size : Int)]) (X' := X) ?_ ?_
              · clear he hl hJ
                first | (go_simp; done) | (go_simp; omega) | (go_simp; rfl)
              · refine (pick_any _ _ _ HFB.out.1 HFB.out.2 hU3 hU4).mono ?_
                rintro e Y ⟨he, rfl⟩; rw [← HBV.out] at he; subst he
                exact ⟨_, rfl, 0, fun _ => rfl, hJ.trans (Below.refl _ _)⟩
            · intro l ds X ρ hρ hl he hJ
              have e123 : ρ (.tmp 123) = .string U := by rw [hρ]; rfl
              have e127 : ρ (.tmp 127) = .int .i64 (B : Int) := by rw [hρ]; rfl
              have ec := rho_const hρ
              clear hρ
              refine Gives.value (u := .string (U.extract B U.size)) (X' := X) ?_ ⟨0, fun _ => rfl, hJ⟩
              clear he hl hJ
              first | (go_simp; done) | (go_simp; omega) | (go_simp; rfl)
            · intro l ds X ρ hρ hl he hJ
              have e122 : ρ (.tmp 122) = .string (z.extract 0 (k + 1)) := by rw [hρ]; rfl
              have e128 : ρ (.tmp 128) = .string (U.extract B U.size) := by rw [hρ]; rfl
              have ec := rho_const hρ
              clear hρ
              refine Gives.value (u := .string (z.extract 0 (k + 1) ++ U.extract B U.size)) (X' := X) ?_ ⟨0, fun _ => rfl, hJ⟩
              clear he hl hJ
              first | (go_simp; done) | (go_simp; omega) | (go_simp; rfl)
            · intro l ds X ρ hρ hl he hJ
              have e129 : ρ (.tmp 129) = .string (z.extract 0 (k + 1) ++ U.extract B U.size) := by rw [hρ]; rfl
              have ec := rho_const hρ
              have ef := rho_func hρ
              clear hρ
              refine Gives.call (f := 22) (args := #[.string (z.extract 0 (k + 1) ++ U.extract B U.size)]) (X' := X) ?_ ?_
              · clear he hl hJ
                first | (go_simp; done) | (go_simp; omega) | (go_simp; rfl)
              · refine (parse_none _ HSM.out n k HSN.out _ (HG.out.below (HB9.out.trans (Below.mono hJ HB9.out.size)) HG.out.size) HPM).mono ?_
                rintro e Y ⟨rfl, hbY⟩
                exact ⟨_, rfl, 0, fun _ => rfl, hJ.trans hbY⟩
            · intro l ds X ρ hρ hl he hJ
              have e130 : ρ (.tmp 130) = .tuple #[.slice none 0 0, .int .i64 (k : Int), .int .i64 150] := by rw [hρ]; rfl
              have ec := rho_const hρ
              clear hρ
              refine Gives.value (u := .tuple #[.slice none 0 0, .int .i64 (k : Int), .int .i64 150]) (X' := X) ?_ ⟨0, fun _ => rfl, hJ⟩
              clear he hl hJ
              first | (go_simp; done) | (go_simp; omega) | (go_simp; rfl)
            · intro l ds X ρ hρ hl he hJ
              have e118 : ρ (.tmp 118) = .tuple #[.slice none 0 0, .int .i64 (k : Int), .int .i64 150] := by rw [hρ]; rfl
              have ec := rho_const hρ
              clear hρ
              refine Gives.value (u := .slice none 0 0) (X' := X) ?_ ⟨0, fun _ => rfl, hJ⟩
              clear he hl hJ
              first | (go_simp; done) | (go_simp; omega) | (go_simp; rfl)
            · intro l ds X ρ hρ hl he hJ
              have e118 : ρ (.tmp 118) = .tuple #[.slice none 0 0, .int .i64 (k : Int), .int .i64 150] := by rw [hρ]; rfl
              have ec := rho_const hρ
              clear hρ
              refine Gives.value (u := .int .i64 (k : Int)) (X' := X) ?_ ⟨0, fun _ => rfl, hJ⟩
              clear he hl hJ
              first | (go_simp; done) | (go_simp; omega) | (go_simp; rfl)
            · intro l ds X ρ hρ hl he hJ
              have e118 : ρ (.tmp 118) = .tuple #[.slice none 0 0, .int .i64 (k : Int), .int .i64 150] := by rw [hρ]; rfl
              have ec := rho_const hρ
              clear hρ
              refine Gives.value (u := .int .i64 150) (X' := X) ?_ ⟨0, fun _ => rfl, hJ⟩
              clear he hl hJ
              first | (go_simp; done) | (go_simp; omega) | (go_simp; rfl)
            · intro l ds X ρ hρ hl he hJ
              have e131 : ρ (.tmp 131) = .slice none 0 0 := by rw [hρ]; rfl
              have ec := rho_const hρ
              clear hρ
              refine Gives.value (u := .slice none 0 0) (X' := X) ?_ ⟨0, fun _ => rfl, hJ⟩
              clear he hl hJ
              first | (go_simp; done) | (go_simp; omega) | (go_simp; rfl)
            · intro l ds X ρ hρ hl he hJ
              have e132 : ρ (.tmp 132) = .int .i64 (k : Int) := by rw [hρ]; rfl
              have ec := rho_const hρ
              clear hρ
              refine Gives.value (u := .int .i64 (k : Int)) (X' := X) ?_ ⟨0, fun _ => rfl, hJ⟩
              clear he hl hJ
              first | (go_simp; done) | (go_simp; omega) | (go_simp; rfl)
            · intro l ds X ρ hρ hl he hJ
              have e133 : ρ (.tmp 133) = .int .i64 150 := by rw [hρ]; rfl
              have ec := rho_const hρ
              clear hρ
              refine Gives.value (u := .int .i64 150) (X' := X) ?_ ⟨0, fun _ => rfl, hJ⟩
              clear he hl hJ
              first | (go_simp; done) | (go_simp; omega) | (go_simp; rfl)
          · intro lt ds X hlt hJ
            simp only [putAll, Act.put, List.setIfInBounds_toArray, List.set_cons_zero, List.set_cons_succ]
            have hB := HB9.out.trans (Below.mono hJ HB9.out.size)
            clear hJ hlt
            go_wp2_with fail
            go_meet
            case rel => exact ⟨rfl, rfl, rfl, hB⟩
        case rest =>
        obtain ⟨rfl, rfl, rfl, hB⟩ := hcut
        have HBF := Lib.hid hB
        clear hB
        go_wp2_with fail
        go_ret
        exact ⟨rfl, HBF.out⟩
end Go.Proofs.YtchoelgkcnnnkaaGreatDoor
