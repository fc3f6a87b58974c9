/- PLAIN FACTS: the chapter's examples, reckoned. · WALK: the chapter's examples (sane). -/
import Derived.Test.YtchoelgkcnnnkaaGreatDoorSmB
set_option linter.all false
namespace Go.Proofs.YtchoelgkcnnnkaaGreatDoor
open Go.RowKit
namespace Ex
def s15 : ByteArray := ⟨#[63, 40, 116, 44, 40, 110, 49, 47, 50, 41, 44, 45, 110, 50, 41]⟩
def s4 : ByteArray := ⟨#[40, 49, 43, 41]⟩
/-- (1+n) -/
def f1 : Fm := .bi ⟨8, 0, ⟨#[]⟩⟩ (.lf ⟨1, 1, ⟨#[]⟩⟩) (.lf ⟨4, 0, ⟨#[110]⟩⟩)
/-- (1+'a') -/
def f2 : Fm := .bi ⟨8, 0, ⟨#[]⟩⟩ (.lf ⟨1, 1, ⟨#[]⟩⟩) (.lf ⟨3, 0, ⟨#[97]⟩⟩)
/-- ?(t,(n1/2),-n2) -/
def f3 : Fm := .tr (Pl.mk0 17) (.lf ⟨4, 0, ⟨#[116]⟩⟩) (.bi (Pl.mk0 11) (.lf ⟨4, 0, ⟨#[110, 49]⟩⟩) (.lf ⟨1, 2, ⟨#[]⟩⟩)) (.un (Pl.mk0 5) (.lf ⟨4, 0, ⟨#[110, 50]⟩⟩))
theorem wf1 : f1.wf := ⟨by decide +kernel, by decide, ⟨by decide +kernel, by decide⟩, ⟨by decide +kernel, by decide⟩⟩
theorem wf2 : f2.wf := ⟨by decide +kernel, by decide, ⟨by decide +kernel, by decide⟩, ⟨by decide +kernel, by decide⟩⟩
theorem wf3 : f3.wf := ⟨by decide +kernel, by decide, ⟨by decide +kernel, by decide⟩, ⟨by decide +kernel, by decide, ⟨by decide +kernel, by decide⟩, ⟨by decide +kernel, by decide⟩⟩, ⟨by decide +kernel, by decide, ⟨by decide +kernel, by decide⟩⟩⟩
theorem text1 : mkS (Pl.text f1) = ⟨#[40, 49, 43, 110, 41]⟩ := by kernel_rfl
theorem rd3 : Pl.rd s15 20 0 = .ok f3 15 := by kernel_rfl
theorem rd4 : Pl.rd s4 20 0 = .bad 3 := by kernel_rfl
theorem ty2 : Pl.ty f2 = 0 ∧ Pl.wrongAt f2 0 (-1) = 0 := ⟨by kernel_rfl, by kernel_rfl⟩
theorem ty3 : Pl.ty f3 = 1 ∧ Pl.wrongAt f3 0 (-1) = -1 := ⟨by kernel_rfl, by kernel_rfl⟩
theorem names3 : Pl.namesOf f3.flat = [⟨#[116]⟩, ⟨#[110, 49]⟩, ⟨#[110, 50]⟩] := by kernel_rfl
theorem valid2 : true = Pl.validB f2.flat := ((Pl.validB_iff f2.flat).2 ⟨by decide, f2, wf2, by decide, rfl⟩).symm
theorem valid3 : true = Pl.validB f3.flat := ((Pl.validB_iff f3.flat).2 ⟨by decide, f3, wf3, by decide, rfl⟩).symm
theorem notvalid2 : false = Pl.validB [⟨8, 0, ⟨#[]⟩⟩, ⟨1, 1, ⟨#[]⟩⟩] := by kernel_rfl
theorem notvalid0 : false = Pl.validB [] := by kernel_rfl
theorem has1 : (if true then some (numV (-4)) else none) = Pl.val (Pl.envOf [⟨#[110]⟩] [⟨1, -7, ⟨#[]⟩⟩]) (fmHas 11 2) := by kernel_rfl
theorem has2 : (if true then some (numV 1) else none) = Pl.val (Pl.envOf [⟨#[110]⟩] [⟨1, -7, ⟨#[]⟩⟩]) (fmHas 12 2) := by kernel_rfl
theorem has3 : (if false then some (numV 0) else none) = Pl.val (Pl.envOf [⟨#[110]⟩] [⟨1, 3, ⟨#[]⟩⟩]) (fmHas 11 0) := by kernel_rfl
theorem types : 1 = Pl.typeOf [110, 49] ∧ 2 = Pl.typeOf [116] ∧ 3 = Pl.typeOf [115, 57, 57] ∧ 0 = Pl.typeOf [110, 48, 49] := ⟨by decide +kernel, by decide +kernel, by decide +kernel, by decide +kernel⟩
theorem vv : true = Pl.validV ⟨1, 5, ⟨#[]⟩⟩ ∧ false = Pl.validV ⟨0, 0, ⟨#[]⟩⟩ := ⟨by decide +kernel, by decide +kernel⟩
end Ex
end Go.Proofs.YtchoelgkcnnnkaaGreatDoor
namespace Go.Proofs.YtchoelgkcnnnkaaGreatDoor
open Go.RowKit
theorem strs_new {w : World} {ns : List ByteArray} {n : Nat} {cs : Array Value} {T : TypeId} (hn : n = ns.length) (hc : cs = (ns.map Value.string).toArray) : StrsIn (w.alloc (.cells cs T)) (.slice (some ⟨w.heap.size, 0, none⟩) n n) ns := by
  subst hn hc
  refine ⟨_, _, rfl, Nat.le_refl _, fun _ => ⟨_, rfl, by simp, fun j x hx => ?_⟩⟩
  rw [Lib.cell_of_heap (MapKept.heap_alloc w _).1]
  simp [hx]
set_option maxRecDepth 100000 in
set_option maxHeartbeats 4000000 in
theorem sane_any (w : World) (hG : Glob w) : Calls Tryz.prog 10 #[] w fun e w' => e = .returned (.bool true) ∧ Below w.heap.size w w' := by
  have HG := Lib.hid hG
  have h8 := hG.size
  clear hG
  go_enter Tryz.func10, Tryz.ntmps10
  go_wp2_with fail
  refine (digit_is 1 _).mono ?_
  rintro e w1 ⟨rfl, hb1⟩
  have HB1 := Lib.hid hb1
  clear hb1
  go_wp2_with fail
  refine (name_is _ _).mono ?_
  rintro e w2 ⟨rfl, hb2⟩
  have HB2 := Lib.hid (HB1.out.trans (hb2.mono HB1.out.size))
  clear hb2
  go_wp2_with fail
  have hT1 := terms_new (w := w2) (ts := Ex.f1.flat) (T := 24) (n := 3) rfl rfl (small_terms (by decide))
  have HB3 := Lib.hid (HB2.out.trans ((below1 w2 (.cells (tmCells Ex.f1.flat).toArray 24)).mono HB2.out.size))
  refine (print_ok _ Ex.f1 _ hT1 (HG.out.below HB3.out h8) Ex.wf1 (by decide) (by decide)).mono ?_
  rintro e w4 ⟨rfl, hb4⟩
  rw [Ex.text1]
  have HB4 := Lib.hid (HB3.out.trans (hb4.mono HB3.out.size))
  clear hb4 hT1
  go_wp2_with fail
  refine (parse_ok Ex.s15 (by decide) 20 (by decide) _ (HG.out.below HB4.out h8) Ex.f3 15 (by decide) (Lib.hid Ex.valid3) (Lib.hid Ex.rd3)).mono ?_
  rintro e w5 ⟨vf, rfl, hTf, hb5⟩
  have HB5 := Lib.hid (HB4.out.trans (hb5.mono HB4.out.size))
  obtain ⟨fa, fc, rfl, hfc, hfsp, hfr⟩ := hTf
  obtain ⟨fd, foff, rfl, hfrow⟩ := hfr Ex.f3.flat_ne
  have HTF : Hid (TermsIn w5 (.slice (some ⟨fd, foff, none⟩) Ex.f3.flat.length fc) Ex.f3.flat) := Lib.hid ⟨_, _, rfl, hfc, hfsp, fun _ => ⟨_, _, rfl, hfrow⟩⟩
  have hfl : Ex.f3.flat.length = 7 := rfl
  have HFL := Lib.hid hfl
  clear hb5 hfr hfrow hfsp hfl
  go_wp2_with fail
  refine (parse_bad Ex.s4 (by decide) 20 (by decide) _ (HG.out.below HB5.out h8) 3 (Lib.hid Ex.rd4)).mono ?_
  rintro e w6 ⟨rfl, hb6⟩
  have HB6 := Lib.hid (HB5.out.trans (hb6.mono HB5.out.size))
  have HTF6 := Lib.hid (HTF.out.below hb6)
  clear hb6
  go_wp2_with fail
  refine (digit_is 1 _).mono ?_
  rintro e w7 ⟨rfl, hb7⟩
  have HB7 := Lib.hid (HB6.out.trans (hb7.mono HB6.out.size))
  have HTF7 := Lib.hid (HTF6.out.below hb7)
  clear hb7
  go_wp2_with fail
  have hT2 := terms_new (w := w7) (ts := Ex.f2.flat) (T := 24) (n := 3) rfl rfl (small_terms (by decide))
  have HTF7a := Lib.hid (HTF7.out.below (below1 w7 (.cells (tmCells Ex.f2.flat).toArray 24)))
  have HB7a := Lib.hid (HB7.out.trans ((below1 w7 (.cells (tmCells Ex.f2.flat).toArray 24)).mono HB7.out.size))
  refine (type_ok _ Ex.f2 _ hT2 Ex.wf2 (by decide) (by decide)).mono ?_
  rintro e w8 ⟨rfl, hb8⟩
  rw [Ex.ty2.1, Ex.ty2.2]
  have HB8 := Lib.hid (HB7a.out.trans (hb8.mono HB7a.out.size))
  have HTF8 := Lib.hid (HTF7a.out.below hb8)
  have HT28 := Lib.hid (hT2.below hb8)
  clear hb8 hT2
  go_wp2_with fail
  refine (type_ok _ Ex.f3 _ HTF8.out Ex.wf3 (by decide) (by decide)).mono ?_
  rintro e w9 ⟨rfl, hb9⟩
  rw [Ex.ty3.1, Ex.ty3.2]
  have HB9 := Lib.hid (HB8.out.trans (hb9.mono HB8.out.size))
  have HTF9 := Lib.hid (HTF8.out.below hb9)
  have HT29 := Lib.hid (HT28.out.below hb9)
  clear hb9
  go_wp2_with fail
  have hrow9 : RowIn w9 fd foff Ex.f3.flat := by
    obtain ⟨a, c, h1, _, _, h4⟩ := HTF9.out
    obtain ⟨b, o, h5, h6⟩ := h4 Ex.f3.flat_ne
    simp only [Value.slice.injEq] at h1
    obtain ⟨h7, _, _⟩ := h1
    rw [h5] at h7
    simp at h7
    obtain ⟨rfl, rfl⟩ := h7
    exact h6
  refine (names_ok Ex.f3.flat fd foff fc _ hfc hrow9 (by decide) Ex.f3.flat_ne (Lib.hid Ex.valid3)).mono ?_
  rintro e w10 ⟨vn, rfl, hst, hb10⟩
  have hNS : StrsIn w10 vn [⟨#[116]⟩, ⟨#[110, 49]⟩, ⟨#[110, 50]⟩] := by rw [← Ex.names3]; exact names_shape hst
  have HNS := Lib.hid hNS
  have HB10 := Lib.hid (HB9.out.trans (hb10.mono HB9.out.size))
  have HTF10 := Lib.hid (HTF9.out.below hb10)
  have HT210 := Lib.hid (HT29.out.below hb10)
  clear hb10 hst hNS hrow9
  go_wp2_with fail
  refine (print_bad (.slice none 0 0) [] _ ⟨none, 0, rfl, Nat.le_refl _, by simp, fun h => absurd rfl h⟩ (by decide) (Lib.hid Ex.notvalid0)).mono ?_
  rintro e w11 ⟨rfl, hb11⟩
  have HB11 := Lib.hid (HB10.out.trans (hb11.mono HB10.out.size))
  have HTF11 := Lib.hid (HTF10.out.below hb11)
  have HT211 := Lib.hid (HT210.out.below hb11)
  have HNS11 := Lib.hid (HNS.out.below hb11)
  clear hb11
  go_wp2_with fail
  refine (name_is _ _).mono ?_
  rintro e w12 ⟨rfl, hb12⟩
  have HB12 := Lib.hid (HB11.out.trans (hb12.mono HB11.out.size))
  have HTF12 := Lib.hid (HTF11.out.below hb12)
  have HT212 := Lib.hid (HT211.out.below hb12)
  have HNS12 := Lib.hid (HNS11.out.below hb12)
  clear hb12
  go_wp2_with fail
  refine (name_is _ _).mono ?_
  rintro e w13 ⟨rfl, hb13⟩
  have HB13 := Lib.hid (HB12.out.trans (hb13.mono HB12.out.size))
  have HTF13 := Lib.hid (HTF12.out.below hb13)
  have HT213 := Lib.hid (HT212.out.below hb13)
  have HNS13 := Lib.hid (HNS12.out.below hb13)
  clear hb13
  go_wp2_with fail
  refine (digit_is 2 _).mono ?_
  rintro e w14 ⟨rfl, hb14⟩
  have HB14 := Lib.hid (HB13.out.trans (hb14.mono HB13.out.size))
  have HTF14 := Lib.hid (HTF13.out.below hb14)
  have HT214 := Lib.hid (HT213.out.below hb14)
  have HNS14 := Lib.hid (HNS13.out.below hb14)
  clear hb14
  go_wp2_with fail
  refine (name_is _ _).mono ?_
  rintro e w15 ⟨rfl, hb15⟩
  have HB15 := Lib.hid (HB14.out.trans (hb15.mono HB14.out.size))
  have HTF15 := Lib.hid (HTF14.out.below hb15)
  have HT215 := Lib.hid (HT214.out.below hb15)
  have HNS15 := Lib.hid (HNS14.out.below hb15)
  clear hb15
  go_wp2_with fail
  have HW16 := Lib.hid (terms_new (w := w15) (ts := Ex.f3.flat) (T := 24) (n := 7) rfl rfl (small_terms (by decide)))
  have HB16 := Lib.hid (HB15.out.trans ((below1 w15 (.cells (tmCells Ex.f3.flat).toArray 24)).mono HB15.out.size))
  have HTF16 := Lib.hid (HTF15.out.below (below1 w15 (.cells (tmCells Ex.f3.flat).toArray 24)))
  have HT216 := Lib.hid (HT215.out.below (below1 w15 (.cells (tmCells Ex.f3.flat).toArray 24)))
  have HNS16 := Lib.hid (HNS15.out.below (below1 w15 (.cells (tmCells Ex.f3.flat).toArray 24)))
  refine (same_true _ _ Ex.f3.flat _ HTF16.out HW16.out (by decide)).mono ?_
  rintro e w17 ⟨rfl, hb17⟩
  have HB17 := Lib.hid (HB16.out.trans (hb17.mono HB16.out.size))
  have HT217 := Lib.hid (HT216.out.below hb17)
  have HNS17 := Lib.hid (HNS16.out.below hb17)
  clear hb17
  go_wp2_with fail
  have HW18 := Lib.hid (strs_new (w := w17) (ns := [⟨#[116]⟩, ⟨#[110, 49]⟩, ⟨#[110, 50]⟩]) (T := 9) (n := 3) rfl rfl)
  have HB18 := Lib.hid (HB17.out.trans ((below1 w17 (.cells (([⟨#[116]⟩, ⟨#[110, 49]⟩, ⟨#[110, 50]⟩] : List ByteArray).map Value.string).toArray 9)).mono HB17.out.size))
  have HT218 := Lib.hid (HT217.out.below (below1 w17 (.cells (([⟨#[116]⟩, ⟨#[110, 49]⟩, ⟨#[110, 50]⟩] : List ByteArray).map Value.string).toArray 9)))
  have HNS18 := Lib.hid (HNS17.out.below (below1 w17 (.cells (([⟨#[116]⟩, ⟨#[110, 49]⟩, ⟨#[110, 50]⟩] : List ByteArray).map Value.string).toArray 9)))
  refine (strings_true _ _ _ _ HNS18.out HW18.out (by decide)).mono ?_
  rintro e w19 ⟨rfl, hb19⟩
  have HB19 := Lib.hid (HB18.out.trans (hb19.mono HB18.out.size))
  have HT219 := Lib.hid (HT218.out.below hb19)
  clear hb19
  go_wp2_with fail
  refine (typeOf_is _ 1 _ (by decide) (Lib.hid Ex.types.1)).mono ?_
  rintro e w20 ⟨rfl, hb20⟩
  have HB20 := Lib.hid (HB19.out.trans (hb20.mono HB19.out.size))
  have HT220 := Lib.hid (HT219.out.below hb20)
  clear hb20
  go_wp2_with fail
  refine (typeOf_is _ 2 _ (by decide) (Lib.hid Ex.types.2.1)).mono ?_
  rintro e w21 ⟨rfl, hb21⟩
  have HB21 := Lib.hid (HB20.out.trans (hb21.mono HB20.out.size))
  have HT221 := Lib.hid (HT220.out.below hb21)
  clear hb21
  go_wp2_with fail
  refine (typeOf_is _ 3 _ (by decide) (Lib.hid Ex.types.2.2.1)).mono ?_
  rintro e w22 ⟨rfl, hb22⟩
  have HB22 := Lib.hid (HB21.out.trans (hb22.mono HB21.out.size))
  have HT222 := Lib.hid (HT221.out.below hb22)
  clear hb22
  go_wp2_with fail
  refine (typeOf_is _ 0 _ (by decide) (Lib.hid Ex.types.2.2.2)).mono ?_
  rintro e w23 ⟨rfl, hb23⟩
  have HB23 := Lib.hid (HB22.out.trans (hb23.mono HB22.out.size))
  have HT223 := Lib.hid (HT222.out.below hb23)
  clear hb23
  go_wp2_with fail
  refine (valid_any _ Ex.f2.flat true _ HT223.out (by decide) (Lib.hid Ex.valid2)).mono ?_
  rintro e w24 ⟨rfl, hb24⟩
  have HB24 := Lib.hid (HB23.out.trans (hb24.mono HB23.out.size))
  have HT224 := Lib.hid (HT223.out.below hb24)
  clear hb24
  go_wp2_with fail
  refine (valid_any _ (Ex.f2.flat.take 2) false _ (terms_take HT224.out (by decide)) (by decide) (Lib.hid Ex.notvalid2)).mono ?_
  rintro e w25 ⟨rfl, hb25⟩
  have HB25 := Lib.hid (HB24.out.trans (hb25.mono HB24.out.size))
  clear hb25
  go_wp2_with fail
  refine (has_any 11 (-7) 2 (-4) true _ (.inl rfl) (by decide) (by decide) (Lib.hid Ex.has1)).mono ?_
  rintro e w26 ⟨rfl, hb26⟩
  have HB26 := Lib.hid (HB25.out.trans (hb26.mono HB25.out.size))
  clear hb26
  go_wp2_with fail
  refine (has_any 12 (-7) 2 1 true _ (.inr rfl) (by decide) (by decide) (Lib.hid Ex.has2)).mono ?_
  rintro e w27 ⟨rfl, hb27⟩
  have HB27 := Lib.hid (HB26.out.trans (hb27.mono HB26.out.size))
  clear hb27
  go_wp2_with fail
  refine (has_any 11 3 0 0 false _ (.inl rfl) (by decide) (by decide) (Lib.hid Ex.has3)).mono ?_
  rintro e w28 ⟨rfl, hb28⟩
  have HB28 := Lib.hid (HB27.out.trans (hb28.mono HB27.out.size))
  clear hb28
  go_wp2_with fail
  refine (number_is 5 _).mono ?_
  rintro e w29 ⟨rfl, hb29⟩
  have HB29 := Lib.hid (HB28.out.trans (hb29.mono HB28.out.size))
  clear hb29
  go_wp2_with fail
  refine (validValue_is ⟨1, 5, ⟨#[]⟩⟩ true _ (Lib.hid Ex.vv.1)).mono ?_
  rintro e w30 ⟨rfl, hb30⟩
  have HB30 := Lib.hid (HB29.out.trans (hb30.mono HB29.out.size))
  clear hb30
  go_wp2_with fail
  refine (validValue_is ⟨0, 0, ⟨#[]⟩⟩ false _ (Lib.hid Ex.vv.2)).mono ?_
  rintro e w31 ⟨rfl, hb31⟩
  have HB31 := Lib.hid (HB30.out.trans (hb31.mono HB30.out.size))
  clear hb31
  go_wp2_with fail
  go_ret
  exact ⟨rfl, HB31.out⟩
end Go.Proofs.YtchoelgkcnnnkaaGreatDoor
