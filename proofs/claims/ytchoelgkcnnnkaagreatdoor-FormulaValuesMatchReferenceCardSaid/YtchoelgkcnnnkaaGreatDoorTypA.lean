/- WALK: FormulaTypes. -/
import Derived.Test.YtchoelgkcnnnkaaGreatDoorGrE
import Derived.Test.YtchoelgkcnnnkaaGreatDoorInA
import Derived.Test.YtchoelgkcnnnkaaGreatDoorPutP
import Derived.Test.YtchoelgkcnnnkaaGreatDoorSaneB
import Derived.RegionTactic
import Derived.Deep.CutRange
set_option linter.all false
namespace Go.Proofs.YtchoelgkcnnnkaaGreatDoor
open Go.RowKit
theorem vals_terms {w : World} {B : Nat} {v : Value} {vs : List Tm} (h : w.ownsRow B 48 3 v vs.length (tmCells vs)) (hs : ∀ t ∈ vs, t.s.size ≤ 9223372036854775807) : TermsIn w v vs := by
  have h' := h
  rcases h.2 with ⟨h1, h2⟩ | ⟨g, cap, cur, h1, _, _, hn, _⟩
  · refine ⟨none, 0, by rw [h1, h2], by omega, by simp, fun hne => ?_⟩
    exact absurd (List.length_eq_zero_iff.1 h2) hne
  · refine ⟨some ⟨g, 0, none⟩, cap, h1, hn, by rintro p ⟨⟩; rfl, fun _ => ⟨g, 0, rfl, fun i t ht => ?_⟩⟩
    subst h1
    have hi := (List.getElem?_eq_some_iff.1 ht).1
    obtain ⟨a1, a2, a3⟩ := tmCells_at vs i t ht
    refine ⟨?_, ?_, ?_, hs t (List.mem_of_getElem? ht)⟩
    · rw [Nat.zero_add, World.ownsRow.cellAt h' _ (by omega)]; exact a1
    · rw [Nat.zero_add, World.ownsRow.cellAt h' _ (by omega)]; exact a2
    · rw [Nat.zero_add, World.ownsRow.cellAt h' _ (by omega)]; exact a3
theorem fits_all {ns : List ByteArray} {vs : List Tm} (hl : vs.length = ns.length) (h : ∀ (i : Nat) n x, ns[i]? = some n → vs[i]? = some x → FitsName n x) : ∀ t ∈ vs, t.s.size ≤ 3 := by
  intro t ht
  obtain ⟨i, hi, e⟩ := List.getElem_of_mem ht
  have hi2 : i < ns.length := by omega
  exact (h i ns[i] t (List.getElem?_eq_getElem hi2) (by rw [List.getElem?_eq_getElem hi, e])).2.2
theorem env_types {f : Fm} {vs : List Tm} (hl : vs.length = (Pl.namesOf f.flat).length) (h : ∀ (i : Nat) n x, (Pl.namesOf f.flat)[i]? = some n → vs[i]? = some x → FitsName n x) : Pl.EnvTy (Pl.envOf (Pl.namesOf f.flat) vs) f := by
  intro t ht h4
  obtain ⟨i, h1, h2⟩ := envOf_get (Pl.namesOf f.flat) vs t.s hl.symm (Pl.namesOf_mem ht h4)
  exact (h i _ _ h1 h2).2.1
theorem foldl_from4 (ts : List Tm) : ∀ (acc : List ByteArray) (n : ByteArray), n ∈ ts.foldl Pl.nameStep acc → n ∈ acc ∨ ∃ t ∈ ts, t.k = 4 ∧ n = t.s := by
  induction ts with
  | nil => intro acc n h; exact .inl h
  | cons u r ih =>
    intro acc n h
    rcases ih _ n h with h | ⟨t, ht, h4, rfl⟩
    · unfold Pl.nameStep at h
      split at h
      · rename_i hc
        rcases List.mem_append.1 h with h | h
        · exact .inl h
        · exact .inr ⟨u, by simp, hc.1, by simpa using h⟩
      · exact .inl h
    · exact .inr ⟨t, by simp [ht], h4, rfl⟩
theorem names_typed {f : Fm} (hw : f.wf) : ∀ n ∈ Pl.namesOf f.flat, 0 < Pl.typeOf n.data.toList := by
  intro n hn
  rcases foldl_from4 f.flat [] n hn with h | ⟨t, ht, h4, rfl⟩
  · simp at h
  · have hf := Pl.wf_formed f hw t ht
    unfold Pl.formed at hf
    rw [if_neg (by omega), if_neg (by omega), if_neg (by omega), if_pos h4] at hf
    simp at hf
    exact hf.2
theorem valueOk_is (k n : Int) (s : ByteArray) (w : World) (h : Pl.validV ⟨k, n, s⟩ = true) : Calls Tryz.prog 30 #[.agg #[.int .i64 k, .int .i64 n, .string s]] w fun e w' => e = .returned (.bool true) ∧ Below w.heap.size w w' := by
  have := validValue_any ⟨k, n, s⟩ w
  rw [h] at this
  exact this
theorem kids_drop {f g : Fm} {i : Nat} (hg : (Pl.kids f)[i]? = some g) : f.flat.drop (1 + (Pl.flats ((Pl.kids f).take i)).length) = g.flat ++ Pl.flats ((Pl.kids f).drop (i + 1)) := by
  have hi := (List.getElem?_eq_some_iff.1 hg).1
  have e1 : Pl.kids f = (Pl.kids f).take i ++ g :: (Pl.kids f).drop (i + 1) := by
    have h2 : (Pl.kids f).drop i = g :: (Pl.kids f).drop (i + 1) := by
      rw [List.drop_eq_getElem_cons hi]
      congr 1
      rw [List.getElem?_eq_getElem hi] at hg
      exact Option.some.inj hg
    rw [← h2, List.take_append_drop]
  have e2 : Pl.flats (Pl.kids f) = Pl.flats ((Pl.kids f).take i) ++ (g.flat ++ Pl.flats ((Pl.kids f).drop (i + 1))) := by
    conv => lhs; rw [e1]
    simp [Pl.flats]
  rw [Pl.flat_kids, e2, Nat.add_comm, List.drop_succ_cons, List.drop_left]
theorem kids_next {f g : Fm} {i : Nat} (hg : (Pl.kids f)[i]? = some g) : (1 + (Pl.flats ((Pl.kids f).take (i + 1))).length : Nat) = 1 + (Pl.flats ((Pl.kids f).take i)).length + g.flat.length := by
  have e : (Pl.kids f).take (i + 1) = (Pl.kids f).take i ++ [g] := by rw [List.take_add_one, hg]; rfl
  rw [e, Pl.flats_snoc, List.length_append]
  omega
theorem terms_sub {w : World} {d off c A m : Nat} {ts : List Tm} (h : RowIn w d off ts) (hm : A + m ≤ ts.length) (hc : ts.length ≤ c) : TermsIn w (.slice (some ⟨d, off + A * 3, none⟩) m (c - A)) ((ts.drop A).take m) := by
  have hl : ((ts.drop A).take m).length = m := by rw [List.length_take, List.length_drop]; omega
  refine ⟨_, _, by rw [hl], by rw [hl]; omega, by rintro p ⟨⟩; rfl, fun _ => ⟨d, off + A * 3, rfl, fun i t ht => ?_⟩⟩
  rw [List.getElem?_take] at ht
  split at ht
  · rw [List.getElem?_drop] at ht
    have := h (A + i) t ht
    rwa [show off + (A + i) * 3 = off + A * 3 + i * 3 by omega] at this
  · cases ht
theorem pairs_terms {w : World} {v : Value} {f : Fm} (h : TermsIn w v f.flat) : ∃ d off c, v = .slice (some ⟨d, off, none⟩) f.flat.length c ∧ f.flat.length ≤ c ∧ RowIn w d off f.flat ∧ d < w.heap.size := by
  obtain ⟨a, c, rfl, hc, _, hr⟩ := h
  obtain ⟨b, off, rfl, hrow⟩ := hr (Fm.flat_ne f)
  exact ⟨b, off, c, rfl, hc, hrow, hrow.lt (Fm.flat_ne f)⟩
set_option maxRecDepth 100000 in
set_option maxHeartbeats 8000000 in
theorem typ_any (t : Int) (vx : Value) (xs : List (Int × Int)) (vy : Value) (ys : List Int) (w : World) (ht : -9223372036854775808 ≤ t ∧ t ≤ 9223372036854775807)
    (hx : PairsIn w vx xs) (hxl : xs.length ≤ 9223372036854775807) (hy : IntsArg w vy ys) (hyl : ys.length ≤ 9223372036854775807) (hG : Glob w) :
    Calls Tryz.prog 7 #[.int .i64 t, vx, vy] w fun e w' => e = .returned (.bool true) ∧ Below w.heap.size w w' := by
  have HX := Lib.hid hx
  have HY := Lib.hid hy
  have HG := Lib.hid hG
  have HTB := Lib.hid ht
  have HXL := Lib.hid hxl
  have HYL := Lib.hid hyl
  obtain ⟨a, ca, rfl, _⟩ := hx
  obtain ⟨a2, ca2, rfl, _⟩ := hy
  clear hG ht hxl hyl
  go_enter Tryz.func7, Tryz.ntmps7
  go_wp2_with fail
  refine (sane_any _ HG.out).mono ?_
  rintro e w1 ⟨rfl, hb1⟩
  have B1 := Lib.hid hb1
  clear hb1
  go_wp2_with fail
  refine (formula_any t _ xs _ HTB.out (HX.out.below B1.out) HXL.out).mono ?_
  rintro e w2 ⟨f, v, rfl, hg, hT, hb2⟩
  have B2 := Lib.hid (B1.out.trans (hb2.mono B1.out.size))
  have HGR := Lib.hid hg
  have hlen := hg.len
  have hdep := hg.depth
  have hl60 : f.flat.length ≤ 60 := by omega
  have hfp : 0 < f.flat.length := Fm.flat_pos f
  have hd12 : f.depth ≤ 12 := by omega
  have HV : Hid (true = Pl.validB f.flat) := Lib.hid (Pl.valid_of hg.wf hd12 hl60).symm
  obtain ⟨d, off, c, rfl, hc, hrow, hdlt⟩ := pairs_terms hT
  have HROW := Lib.hid hrow
  have p3 := Pl.pickOf_range t 3 (by decide)
  have hty : Pl.ty f ≠ 0 := by rw [hg.ty]; omega
  have HTY := Lib.hid hty
  clear hg hT hb2 hlen hdep hrow hty
  go_wp2_with fail
  refine (in_any f.flat d off c _ ys _ hc HROW.out hl60 (Fm.flat_ne f) HV (HY.out.below B2.out) HYL.out (names_typed HGR.out.wf)).mono ?_
  rintro e w3 ⟨vv, vs, rfl, hov, hvl, hfit, hb3⟩
  have B3 := Lib.hid (B2.out.trans (hb3.mono B2.out.size))
  have hR3 := HROW.out.below hb3 hdlt
  have HR3 := Lib.hid hR3
  have hd3 : d < w3.heap.size := Nat.lt_of_lt_of_le hdlt hb3.size
  have HVT := Lib.hid (vals_terms hov (fun x hx => Nat.le_trans (fits_all hvl hfit x hx) (by decide)))
  have HFT := Lib.hid hfit
  have HVL := Lib.hid hvl
  have hT3 : Hid (TermsIn w3 (.slice (some ⟨d, off, none⟩) f.flat.length c) f.flat) := Lib.hid ⟨_, _, rfl, hc, by rintro p ⟨⟩; rfl, fun _ => ⟨_, _, rfl, hR3⟩⟩
  clear hov hfit hb3 HROW hR3 hvl
  go_wp2_with fail
  refine (type_ok _ f _ hT3.out HGR.out.wf hl60 hd12).mono ?_
  rintro e w4 ⟨rfl, hb4⟩
  rw [Pl.wrongAt_none f 0 (-1) HTY.out, HGR.out.ty]
  have B4 := Lib.hid (B3.out.trans (hb4.mono B3.out.size))
  have HR4 := Lib.hid (HR3.out.below hb4 hd3)
  have hd4 : d < w4.heap.size := Nat.lt_of_lt_of_le hd3 hb4.size
  have HVT4 := Lib.hid (HVT.out.below hb4)
  clear hb4 HR3 HVT hT3
  obtain ⟨P, hP⟩ : ∃ P, P = Pl.pickOf t 3 := ⟨_, rfl⟩
  rw [← hP] at p3 ⊢
  have HP := Lib.hid hP
  clear hP
  obtain ⟨r, hr⟩ : ∃ r, r = Pl.val (Pl.envOf (Pl.namesOf f.flat) vs) f := ⟨_, rfl⟩
  have HRV := Lib.hid hr
  clear hr
  go_wp2_with fail
  refine (value_ok vv f vs d off c _ hc HR4.out HVT4.out HGR.out.wf hl60 hd12 HTY.out HVL.out (fun i n x h1 h2 => ⟨(HFT.out i n x h1 h2).1, (HFT.out i n x h1 h2).2.1⟩)).mono ?_
  rw [← HRV.out]
  rintro e w5 hpost
  have hval : Hid (∀ x, r = some x → x.k = 1 + P ∧ Pl.validV x = true) := by
    refine Lib.hid fun x hx => ?_
    rw [HRV.out] at hx
    have h1 := Pl.val_type f x HGR.out.wf (env_types HVL.out HFT.out) HTY.out hx
    refine ⟨by rw [h1, HGR.out.ty, HP.out], ?_⟩
    refine Pl.val_valid f x HGR.out.wf (fun u hu h4 => ?_) hx
    obtain ⟨i, h5, h6⟩ := envOf_get (Pl.namesOf f.flat) vs u.s HVL.out.symm (Pl.namesOf_mem hu h4)
    exact (HFT.out i _ _ h5 h6).1
  obtain ⟨m, hm⟩ : ∃ m, m = (Pl.kids f).length := ⟨_, rfl⟩
  have HML : Hid ((Pl.kids f).length = m) := Lib.hid hm.symm
  have HMK : Hid ((m : Int) = Pl.operandsOf f.hd.k) := Lib.hid (by rw [hm]; exact Pl.kids_len HGR.out.wf)
  have hm3 : m ≤ 3 := by have h1 := HMK.out; have h2 := Pl.operandsOf_range f.hd.k; omega
  have HD0 : Hid (f.flat[0]? = some f.hd) := Lib.hid (by rw [Pl.flat_kids]; rfl)
  clear hm
  cases r with
  | none =>
    obtain ⟨he, hb5⟩ := hpost
    have he' : e = .returned (.tuple #[.agg #[.int .i64 0, .int .i64 0, .string ⟨#[]⟩], .bool false, .int .i64 0]) := he
    subst he'
    clear he
    have B5 := Lib.hid (B4.out.trans (hb5.mono B4.out.size))
    have HR5 := Lib.hid (HR4.out.below hb5 hd4)
    have hd5 : d < w5.heap.size := Nat.lt_of_lt_of_le hd4 hb5.size
    clear hb5
    go_wp2_with fail
    refine (pick_any t 3 _ HTB.out.1 HTB.out.2 (by decide) (by decide)).mono ?_
    rintro e w' ⟨rfl, rfl⟩
    rw [← HP.out]
    obtain ⟨W, hW⟩ : ∃ W, W = w5.alloc (.cells #[.int .i64 0, .int .i64 0, .string ⟨#[]⟩] 48) := ⟨_, rfl⟩
    have B7 : Hid (Below w.heap.size w W) := Lib.hid (by rw [hW]; exact bel_alloc B5.out _)
    have HR7 : Hid (RowIn W d off f.flat) := Lib.hid (by rw [hW]; exact HR5.out.below (below1 w5 _) hd5)
    have hd7 : d < W.heap.size := by rw [hW]; simp; omega
    go_wp2_with fail
    rw [← hW]
    clear hW
    go_loopw [15, 16] (fun sa si wr => ∃ i : Nat, i ≤ m ∧ si = .int .i64 i ∧ sa = .int .i64 ((1 + (Pl.flats ((Pl.kids f).take i)).length : Nat) : Int) ∧ Below W.heap.size W wr) (fun _ si _ => m - (intOf si).toNat)
    case atStart => exact ⟨0, Nat.zero_le _, rfl, rfl, Below.refl _ _⟩
    case round =>
      obtain ⟨i, hi, rfl, rfl, hbr⟩ := hrel
      have HBR := Lib.hid hbr
      have h00 := (HR7.out.below hbr hd7) 0 _ HD0.out
      obtain ⟨h00, _, _, _⟩ := h00
      rw [Nat.zero_mul, Nat.add_zero] at h00
      clear hbr
      by_cases hlt : i < m
      · obtain ⟨g, hg⟩ : ∃ g, (Pl.kids f)[i]? = some g := ⟨(Pl.kids f)[i]'(by rw [HML.out]; exact hlt), by simp⟩
        obtain ⟨A, hA⟩ : ∃ A, A = 1 + (Pl.flats ((Pl.kids f).take i)).length := ⟨_, rfl⟩
        rw [← hA]
        go_wp2_with fail
        refine (operandsR_any _ _).mono ?_
        rintro e w' ⟨rfl, rfl⟩
        rw [← HMK.out]
        have hgm := List.mem_of_getElem? hg
        obtain ⟨gw, gd⟩ := Pl.kids_wf HGR.out.wf g hgm
        have gty := Pl.kids_ty HTY.out g hgm
        have HDR : Hid (f.flat.drop A = g.flat ++ Pl.flats ((Pl.kids f).drop (i + 1))) := Lib.hid (by rw [hA]; exact kids_drop hg)
        have hAg : A + g.flat.length ≤ f.flat.length := by
          have h1 := congrArg List.length HDR.out
          rw [List.length_drop, List.length_append] at h1
          have h2 := Fm.flat_pos g
          omega
        have HNX : Hid ((1 + (Pl.flats ((Pl.kids f).take (i + 1))).length : Nat) = A + g.flat.length) := Lib.hid (by rw [hA]; exact kids_next hg)
        have hgp := Fm.flat_pos g
        have HGW := Lib.hid gw
        have HGT := Lib.hid gty
        have gd12 : g.depth ≤ 12 := by omega
        have hA1 : 1 ≤ A := by omega
        clear hg hA hgm gw gty gd
        go_wp2_with fail
        go_loopw [17] (fun se wr2 => ∃ e : Nat, A + 1 ≤ e ∧ e ≤ A + g.flat.length ∧ se = .int .i64 e ∧ Below W.heap.size W wr2) (fun se _ => A + g.flat.length - (intOf se).toNat)
        case atStart => exact ⟨A + 1, Nat.le_refl _, by omega, by go_num, HBR.out⟩
        case round =>
          obtain ⟨e, he1, he2, rfl, hbr2⟩ := hrel
          have HB2 := Lib.hid hbr2
          have HSUB := Lib.hid (terms_sub (m := e - A) (HR7.out.below hbr2 hd7) (show A + (e - A) ≤ f.flat.length by omega) hc)
          have HVQ := Lib.hid (show decide (e - A = g.flat.length) = Pl.validB ((f.flat.drop A).take (e - A)) by rw [HDR.out]; exact (Pl.ends_at HGW.out gd12 (by omega) (by omega)).symm)
          clear hbr2
          have hel : e ≤ f.flat.length := by omega
          have hln : ((f.flat.drop A).take (e - A)).length ≤ 9223372036854775807 := by rw [List.length_take, List.length_drop]; omega
          have HLN := Lib.hid hln
          clear hln
          by_cases hq : e - A = g.flat.length
          · have HVT : Hid (true = Pl.validB ((f.flat.drop A).take (e - A))) := Lib.hid (by rw [← HVQ.out, decide_eq_true hq])
            have HSG : Hid ((f.flat.drop A).take (e - A) = g.flat) := Lib.hid (by rw [HDR.out, hq, List.take_left])
            have HEQ : Hid (e = A + g.flat.length) := Lib.hid (by omega)
            clear hq
            go_wp2_with fail
            refine (valid_any _ _ true _ HSUB.out HLN.out HVT).mono ?_
            rintro e2 w8 ⟨rfl, hb8⟩
            have HB8 := Lib.hid (HB2.out.trans (hb8.mono HB2.out.size))
            have HS8 := Lib.hid (show TermsIn w8 _ g.flat by rw [← HSG.out]; exact HSUB.out.below hb8)
            clear hb8
            go_wp2_with fail
            refine (type_ok _ g _ HS8.out HGW.out (by omega) gd12).mono ?_
            rintro e3 w9 ⟨rfl, hb9⟩
            rw [Pl.wrongAt_none g 0 (-1) HGT.out]
            have HB9 := Lib.hid (HB8.out.trans (hb9.mono HB8.out.size))
            have htg : (Pl.ty g == 0) = false := by rw [beq_eq_false_iff_ne]; exact HGT.out
            obtain ⟨TG, hTG⟩ : ∃ TG, TG = Pl.ty g := ⟨_, rfl⟩
            rw [← hTG] at htg ⊢
            clear hb9 hTG
            go_wp2_with fail
            go_roundw
            case rel => exact ⟨i + 1, by omega, by go_num, by rw [HNX.out, HEQ.out], HB9.out⟩
            case measure => simp [intOf]; omega
          · have HVF : Hid (false = Pl.validB ((f.flat.drop A).take (e - A))) := Lib.hid (by rw [← HVQ.out, decide_eq_false hq])
            have he3 : e + 1 ≤ A + g.flat.length := by omega
            clear hq
            go_wp2_with fail
            refine (valid_any _ _ false _ HSUB.out HLN.out HVF).mono ?_
            rintro e2 w8 ⟨rfl, hb8⟩
            have HB8 := Lib.hid (HB2.out.trans (hb8.mono HB2.out.size))
            clear hb8
            go_wp2_with fail
            go_roundw
            case rel => exact ⟨e + 1, by omega, by omega, by go_num, HB8.out⟩
            case measure => simp [intOf]; omega
      · obtain rfl : i = m := by omega
        obtain ⟨A, hA⟩ : ∃ A, A = 1 + (Pl.flats ((Pl.kids f).take i)).length := ⟨_, rfl⟩
        rw [← hA]
        have hAe : ((A : Int) == (f.flat.length : Int)) = true := by
          rw [hA, ← HML.out, List.take_length, Pl.flat_kids f]
          simp
          omega
        clear hA
        go_wp2_with fail
        refine (operandsR_any _ _).mono ?_
        rintro e w' ⟨rfl, rfl⟩
        rw [← HMK.out]
        go_wp2_with fail
        go_ret
        exact ⟨rfl, B7.out.trans (HBR.out.mono B7.out.size)⟩
  | some r =>
    obtain ⟨rk, rn, rs⟩ := r
    obtain ⟨he, hb5⟩ := hpost
    have he' : e = .returned (.tuple #[.agg #[.int .i64 rk, .int .i64 rn, .string rs], .bool true, .int .i64 0]) := he
    subst he'
    clear he
    obtain ⟨hrk, hrv⟩ := hval.out _ rfl
    dsimp only at hrk
    subst hrk
    have HRVV := Lib.hid hrv
    have B5 := Lib.hid (B4.out.trans (hb5.mono B4.out.size))
    have HR5 := Lib.hid (HR4.out.below hb5 hd4)
    have hd5 : d < w5.heap.size := Nat.lt_of_lt_of_le hd4 hb5.size
    clear hb5 hrv
    go_wp2_with fail
    refine (pick_any t 3 _ HTB.out.1 HTB.out.2 (by decide) (by decide)).mono ?_
    rintro e w' ⟨rfl, rfl⟩
    rw [← HP.out]
    go_wp2_with fail
    refine (valueOk_is _ _ _ _ HRVV.out).mono ?_
    rintro e W ⟨rfl, hbW⟩
    have B7 := Lib.hid ((bel_alloc B5.out _).trans (hbW.mono (by simp; have := B5.out.size; omega)))
    have HR7 := Lib.hid ((HR5.out.below (below1 w5 _) hd5).below hbW (by simp; omega))
    have hd7 : d < W.heap.size := by have := hbW.size; simp at this; omega
    clear hbW
    go_wp2_with fail
    go_loopw [15, 16] (fun sa si wr => ∃ i : Nat, i ≤ m ∧ si = .int .i64 i ∧ sa = .int .i64 ((1 + (Pl.flats ((Pl.kids f).take i)).length : Nat) : Int) ∧ Below W.heap.size W wr) (fun _ si _ => m - (intOf si).toNat)
    case atStart => exact ⟨0, Nat.zero_le _, rfl, rfl, Below.refl _ _⟩
    case round =>
      obtain ⟨i, hi, rfl, rfl, hbr⟩ := hrel
      have HBR := Lib.hid hbr
      have h00 := (HR7.out.below hbr hd7) 0 _ HD0.out
      obtain ⟨h00, _, _, _⟩ := h00
      rw [Nat.zero_mul, Nat.add_zero] at h00
      clear hbr
      by_cases hlt : i < m
      · obtain ⟨g, hg⟩ : ∃ g, (Pl.kids f)[i]? = some g := ⟨(Pl.kids f)[i]'(by rw [HML.out]; exact hlt), by simp⟩
        obtain ⟨A, hA⟩ : ∃ A, A = 1 + (Pl.flats ((Pl.kids f).take i)).length := ⟨_, rfl⟩
        rw [← hA]
        go_wp2_with fail
        refine (operandsR_any _ _).mono ?_
        rintro e w' ⟨rfl, rfl⟩
        rw [← HMK.out]
        have hgm := List.mem_of_getElem? hg
        obtain ⟨gw, gd⟩ := Pl.kids_wf HGR.out.wf g hgm
        have gty := Pl.kids_ty HTY.out g hgm
        have HDR : Hid (f.flat.drop A = g.flat ++ Pl.flats ((Pl.kids f).drop (i + 1))) := Lib.hid (by rw [hA]; exact kids_drop hg)
        have hAg : A + g.flat.length ≤ f.flat.length := by
          have h1 := congrArg List.length HDR.out
          rw [List.length_drop, List.length_append] at h1
          have h2 := Fm.flat_pos g
          omega
        have HNX : Hid ((1 + (Pl.flats ((Pl.kids f).take (i + 1))).length : Nat) = A + g.flat.length) := Lib.hid (by rw [hA]; exact kids_next hg)
        have hgp := Fm.flat_pos g
        have HGW := Lib.hid gw
        have HGT := Lib.hid gty
        have gd12 : g.depth ≤ 12 := by omega
        have hA1 : 1 ≤ A := by omega
        clear hg hA hgm gw gty gd
        go_wp2_with fail
        go_loopw [17] (fun se wr2 => ∃ e : Nat, A + 1 ≤ e ∧ e ≤ A + g.flat.length ∧ se = .int .i64 e ∧ Below W.heap.size W wr2) (fun se _ => A + g.flat.length - (intOf se).toNat)
        case atStart => exact ⟨A + 1, Nat.le_refl _, by omega, by go_num, HBR.out⟩
        case round =>
          obtain ⟨e, he1, he2, rfl, hbr2⟩ := hrel
          have HB2 := Lib.hid hbr2
          have HSUB := Lib.hid (terms_sub (m := e - A) (HR7.out.below hbr2 hd7) (show A + (e - A) ≤ f.flat.length by omega) hc)
          have HVQ := Lib.hid (show decide (e - A = g.flat.length) = Pl.validB ((f.flat.drop A).take (e - A)) by rw [HDR.out]; exact (Pl.ends_at HGW.out gd12 (by omega) (by omega)).symm)
          clear hbr2
          have hel : e ≤ f.flat.length := by omega
          have hln : ((f.flat.drop A).take (e - A)).length ≤ 9223372036854775807 := by rw [List.length_take, List.length_drop]; omega
          have HLN := Lib.hid hln
          clear hln
          by_cases hq : e - A = g.flat.length
          · have HVT : Hid (true = Pl.validB ((f.flat.drop A).take (e - A))) := Lib.hid (by rw [← HVQ.out, decide_eq_true hq])
            have HSG : Hid ((f.flat.drop A).take (e - A) = g.flat) := Lib.hid (by rw [HDR.out, hq, List.take_left])
            have HEQ : Hid (e = A + g.flat.length) := Lib.hid (by omega)
            clear hq
            go_wp2_with fail
            refine (valid_any _ _ true _ HSUB.out HLN.out HVT).mono ?_
            rintro e2 w8 ⟨rfl, hb8⟩
            have HB8 := Lib.hid (HB2.out.trans (hb8.mono HB2.out.size))
            have HS8 := Lib.hid (show TermsIn w8 _ g.flat by rw [← HSG.out]; exact HSUB.out.below hb8)
            clear hb8
            go_wp2_with fail
            refine (type_ok _ g _ HS8.out HGW.out (by omega) gd12).mono ?_
            rintro e3 w9 ⟨rfl, hb9⟩
            rw [Pl.wrongAt_none g 0 (-1) HGT.out]
            have HB9 := Lib.hid (HB8.out.trans (hb9.mono HB8.out.size))
            have htg : (Pl.ty g == 0) = false := by rw [beq_eq_false_iff_ne]; exact HGT.out
            obtain ⟨TG, hTG⟩ : ∃ TG, TG = Pl.ty g := ⟨_, rfl⟩
            rw [← hTG] at htg ⊢
            clear hb9 hTG
            go_wp2_with fail
            go_roundw
            case rel => exact ⟨i + 1, by omega, by go_num, by rw [HNX.out, HEQ.out], HB9.out⟩
            case measure => simp [intOf]; omega
          · have HVF : Hid (false = Pl.validB ((f.flat.drop A).take (e - A))) := Lib.hid (by rw [← HVQ.out, decide_eq_false hq])
            have he3 : e + 1 ≤ A + g.flat.length := by omega
            clear hq
            go_wp2_with fail
            refine (valid_any _ _ false _ HSUB.out HLN.out HVF).mono ?_
            rintro e2 w8 ⟨rfl, hb8⟩
            have HB8 := Lib.hid (HB2.out.trans (hb8.mono HB2.out.size))
            clear hb8
            go_wp2_with fail
            go_roundw
            case rel => exact ⟨e + 1, by omega, by omega, by go_num, HB8.out⟩
            case measure => simp [intOf]; omega
      · obtain rfl : i = m := by omega
        obtain ⟨A, hA⟩ : ∃ A, A = 1 + (Pl.flats ((Pl.kids f).take i)).length := ⟨_, rfl⟩
        rw [← hA]
        have hAe : ((A : Int) == (f.flat.length : Int)) = true := by
          rw [hA, ← HML.out, List.take_length, Pl.flat_kids f]
          simp
          omega
        clear hA
        go_wp2_with fail
        refine (operandsR_any _ _).mono ?_
        rintro e w' ⟨rfl, rfl⟩
        rw [← HMK.out]
        go_wp2_with fail
        go_ret
        exact ⟨rfl, B7.out.trans (HBR.out.mono B7.out.size)⟩
end Go.Proofs.YtchoelgkcnnnkaaGreatDoor
