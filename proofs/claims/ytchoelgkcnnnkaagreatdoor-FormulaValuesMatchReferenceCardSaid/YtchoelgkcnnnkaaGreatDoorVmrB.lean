/- FormulaValuesMatchReference returns true for every input, and leaves its arguments as they were: the walk, the row, and its tied card. Conditions: the listed package-level variables start as the program's text lays them (tied). -/
import Derived.Test.YtchoelgkcnnnkaaGreatDoorVmrP
import Derived.Test.YtchoelgkcnnnkaaGreatDoorArgV
import Derived.Test.YtchoelgkcnnnkaaGreatDoorTypA
import Derived.StillTailTactics
import Derived.Deep.RegionHeld3
import Derived.Deep.CutRange
import Derived.Laws.AppendOwnNone
set_option linter.all false
namespace Go.Proofs.YtchoelgkcnnnkaaGreatDoor
open Go.RowKit
theorem tmCells_setM (ts : List Tm) (x : Tm) : ∀ (i : Nat), i < ts.length → (((tmCells ts).set (i * 3) (.int .i64 x.k)).set (i * 3 + 1) (.int .i64 x.n)).set (i * 3 + 2) (.string x.s) = tmCells (ts.set i x) := by
  induction ts with
  | nil => intro i h; simp at h
  | cons t r ih =>
    intro i h
    have e : tmCells (t :: r) = Value.int .i64 t.k :: Value.int .i64 t.n :: Value.string t.s :: tmCells r := rfl
    cases i with
    | zero => rfl
    | succ i =>
      have e2 : tmCells ((t :: r).set (i + 1) x) = Value.int .i64 t.k :: Value.int .i64 t.n :: Value.string t.s :: tmCells (r.set i x) := rfl
      have := ih i (by simpa using h)
      rw [e, e2, ← this, show (i + 1) * 3 = i * 3 + 1 + 1 + 1 by omega]
      simp only [List.set_cons_succ]
/-- A term in the place of one of a row that is owned. -/
theorem own_put {w : World} {B g n cap : Nat} {ts : List Tm} {x : Tm} {e : TypeId} (h : w.ownsRow B e 3 (.slice (some ⟨g, 0, none⟩) n cap) n (tmCells ts)) (i : Nat) (hi : i < ts.length) :
    (((w.setCell ⟨g, i * 3, none⟩ (.int .i64 x.k)).setCell ⟨g, i * 3 + 1, none⟩ (.int .i64 x.n)).setCell ⟨g, i * 3 + 2, none⟩ (.string x.s)).ownsRow B e 3 (.slice (some ⟨g, 0, none⟩) n cap) n (tmCells (ts.set i x)) := by
  have h1 := (World.ownsRow.stored h (i * 3) (.int .i64 x.k)).1
  have h2 := (World.ownsRow.stored h1 (i * 3 + 1) (.int .i64 x.n)).1
  have h3 := (World.ownsRow.stored h2 (i * 3 + 2) (.string x.s)).1
  rw [tmCells_setM ts x i hi] at h3
  exact h3
theorem below_put {B : Nat} {w0 w : World} {g : Nat} (h : Below B w0 w) (hg : B ≤ g) (o1 o2 o3 : Nat) (u1 u2 u3 : Value) : Below B w0 (((w.setCell ⟨g, o1, none⟩ u1).setCell ⟨g, o2, none⟩ u2).setCell ⟨g, o3, none⟩ u3) :=
  ((h.setCell (p := ⟨g, o1, none⟩) hg _).setCell (p := ⟨g, o2, none⟩) hg _).setCell (p := ⟨g, o3, none⟩) hg _
theorem own_capM {w : World} {B g n cap : Nat} {e : TypeId} {size : Nat} {xs : List Value} (h : w.ownsRow B e size (.slice (some ⟨g, 0, none⟩) n cap) n xs) : n ≤ cap := by
  rcases h.2 with ⟨h1, _⟩ | ⟨g', cap', cur, h1, _, _, hn, _⟩
  · cases h1
  · cases h1; exact hn
theorem terms_take' {w : World} {a : Option Addr} {n c k : Nat} {ts : List Tm} (h : TermsIn w (.slice a n c) ts) (hk : k ≤ ts.length) : TermsIn w (.slice a k c) (ts.take k) := by
  obtain ⟨a', c', e, hc, hs, hr⟩ := h
  simp only [Value.slice.injEq] at e
  obtain ⟨rfl, rfl, rfl⟩ := e
  have hl : (ts.take k).length = k := by rw [List.length_take]; omega
  refine ⟨a, c, by rw [hl], by rw [hl]; omega, hs, fun hne => ?_⟩
  obtain ⟨b, off, rfl, hrow⟩ := hr (by intro e; rw [e] at hne; simp at hne)
  refine ⟨b, off, rfl, fun i t ht => hrow i t ?_⟩
  rw [List.getElem?_take] at ht
  split at ht
  · exact ht
  · cases ht
theorem sl_len {w : World} {a : Option Addr} {n c : Nat} {ts : List Tm} (h : TermsIn w (.slice a n c) ts) : n = ts.length ∧ n ≤ c := by
  obtain ⟨a', c', e, hc, _⟩ := h
  simp only [Value.slice.injEq] at e
  obtain ⟨rfl, rfl, rfl⟩ := e
  exact ⟨rfl, hc⟩
set_option maxRecDepth 100000 in
set_option maxHeartbeats 16000000 in
theorem vmr_any (t wh : Int) (vx : Value) (xs : List (Int × Int)) (vy : Value) (ys : List Int) (od vv : Tm) (vr : Value) (rs : List Tm) (vl : Value) (ls : List Tm) (w : World)
    (ht : -9223372036854775808 ≤ t ∧ t ≤ 9223372036854775807) (hw : -9223372036854775808 ≤ wh ∧ wh ≤ 9223372036854775807) (hx : PairsIn w vx xs) (hxl : xs.length ≤ 9223372036854775807) (hy : IntsArg w vy ys) (hyl : ys.length ≤ 9223372036854775807)
    (kod : TmOk od) (kvv : TmOk vv) (hr : TermsIn w vr rs) (hrl : rs.length ≤ 9223372036854775807) (hql : TermsIn w vl ls) (hll : ls.length ≤ 9223372036854775807) (hqo : ∀ x ∈ ls, TmOk x) (hG : Glob w) :
    Calls Tryz.prog 4 #[.int .i64 t, vx, vy, od.agg, .int .i64 wh, vv.agg, vr, vl] w fun e w' => e = .returned (.bool true) ∧ Below w.heap.size w w' := by
  have hod := kod.2.2
  have hvv := kvv.2.2
  obtain ⟨vk, vm, vt⟩ := vv
  obtain ⟨ok, on, os⟩ := od
  obtain ⟨i0, hi0, hz0, hz1, hz2⟩ := info_parts info24
  obtain ⟨i1, hi1, hy0, hy1, hy2⟩ := info_parts info48
  have HX := Lib.hid hx
  have HG := Lib.hid hG
  have HTB := Lib.hid ht
  have HWB := Lib.hid hw
  have HTR := Lib.hid hr
  obtain ⟨a, ca, rfl, _⟩ := hx
  obtain ⟨ar, cr, rfl, hcr, _⟩ := hr
  have HTL := Lib.hid hql
  obtain ⟨al, cl, rfl, hcl, _⟩ := hql
  have HYA := Lib.hid hy
  obtain ⟨ay, cy2, rfl, _⟩ := hy
  unfold Tm.agg
  dsimp only at hod hvv ⊢
  have HYL := Lib.hid hyl
  clear hG ht hw kod kvv
  go_enter Tryz.func4, Tryz.ntmps4
  go_wp2_with fail
  obtain ⟨W0, hW0⟩ : ∃ W0, W0 = (w.alloc (.cells #[.int .i64 ok, .int .i64 on, .string os] 24)).alloc (.cells #[.int .i64 vk, .int .i64 vm, .string vt] 48) := ⟨_, rfl⟩
  have HBX : Hid (W0.heap[w.heap.size]? = some (.cells #[.int .i64 ok, .int .i64 on, .string os] 24 (0, 0))) := Lib.hid (by rw [hW0]; exact (new2 w _ _).2.1)
  have B0 : Hid (Below w.heap.size w W0) := Lib.hid (by rw [hW0]; exact (new2 w _ _).2.2.1)
  rw [← hW0]
  have hsW0 : W0.heap.size = w.heap.size + 1 + 1 := by rw [hW0]; simp
  have HBV : Hid (W0.heap[w.heap.size + 1]? = some (.cells #[.int .i64 vk, .int .i64 vm, .string vt] 48 (0, 0))) := Lib.hid (by rw [hW0]; exact (new2 w _ _).1)
  have HSW := Lib.hid hsW0
  clear hW0 hsW0
  refine (sane_any _ (HG.out.below B0.out HG.out.size)).mono ?_
  rintro e w1 ⟨rfl, hb1⟩
  have B1 := Lib.hid hb1
  clear hb1
  go_wp2_with fail
  refine (formula_any t _ xs _ HTB.out ((HX.out.below B0.out).below B1.out) hxl).mono ?_
  rintro e w2 ⟨f, v, rfl, hg, hT, hb2⟩
  have B2 := Lib.hid (B1.out.trans (hb2.mono B1.out.size))
  have HGR := Lib.hid hg
  have hlen := hg.len
  have hdep := hg.depth
  have hl37 : f.flat.length ≤ 37 := by omega
  have hl60 : f.flat.length ≤ 60 := by omega
  have hd12 : f.depth ≤ 12 := by omega
  have hfp := Fm.flat_pos f
  have htl := Pl.text_len f hg.wf
  have htn : (Pl.text f).length ≠ 0 := by intro e; exact Pl.text_ne f hg.wf (List.length_eq_zero_iff.1 e)
  obtain ⟨T, hTx⟩ : ∃ T, T = mkS (Pl.text f) := ⟨_, rfl⟩
  have hTs : T.size = (Pl.text f).length := by rw [hTx]; rfl
  have hT1 : 1 ≤ T.size := by omega
  have hT2 : T.size ≤ 2700 := by omega
  have HTX := Lib.hid hTx
  obtain ⟨fd, fo, fc, rfl, hfc, hfrow, hfd⟩ := pairs_terms hT
  have HFR := Lib.hid hfrow
  have HTF := Lib.hid hT
  have hs2 := hb2.size
  have hs2b := B2.out.size
  obtain ⟨fl, hfl⟩ : ∃ fl, fl = f.flat := ⟨_, rfl⟩
  have HFL := Lib.hid hfl
  rw [← hfl] at HTF HFR hl37 hl60 hfp hfc ⊢
  have HNL : Hid ((w2.alloc (.cells #[] 24)).ownsRow w2.heap.size 24 3 (.slice (some ⟨w2.heap.size, 0, none⟩) 0 0) 0 []) := Lib.hid (World.ownsRow_lit _ _ _ (Nat.le_refl _) (by decide) rfl)
  have HRW := Lib.hid (HFR.out.below (below1 w2 (.cells #[] 24)) hfd)
  have HRC := Lib.hid (show ∀ j u, (tmCells fl)[j]? = some u → (w2.alloc (.cells #[] 24)).cell? ((⟨fd, fo, none⟩ : Addr).add j) = some u from fun j u hj => by rw [add_plain]; exact row_cells fl fo HRW.out j u hj)
  clear hg hT hb2 htl htn hTs hTx hlen hdep hfrow hfl
  go_wp2_with (at_builtin; go_loud (refine wpList_append_own _ rfl _ _ 25 rfl w2.heap.size 24 i0 (.agg #[.int .i64 0, .int .i64 0, .string ByteArray.empty]) 3 32 Tryz.underlying25 hi0 hz0 hz1 hz2 rfl (by decide) _ _ _ rfl HNL.out ⟨fd, fo, none⟩ fl.length fc (tmCells fl) rfl (tmCells_size3 _) HRC.out (tmCells_one _) (by simp [maxLen]; omega) (by omega) (by simp) ?_))
  intro v' w3 hown hgrow _
  have hown2 : w3.ownsRow w2.heap.size 24 3 v' fl.length (tmCells fl) := by simpa using hown
  obtain ⟨gb, gc, rfl, hgb, hgb2⟩ := World.ownsRow.form hown2 (by omega)
  have HOW := Lib.hid hown2
  have hgc := own_capM hown2
  have B3 := Lib.hid ((B2.out.alloc hs2b _).grown hgrow (by simp; omega) fun k hk => by have := (World.ownsRow.lt HNL.out k hk).1; omega)
  have HB23 : Hid (Below w2.heap.size w2 w3) := Lib.hid ((below1 w2 (.cells #[] 24)).grown hgrow (by simp) fun k hk => (World.ownsRow.lt HNL.out k hk).1)
  have hs3 := B3.out.size
  clear hown hown2 hgrow HRC HRW HNL
  obtain ⟨J, hJ⟩ : ∃ J : Nat, (J : Int) = Pl.pickOf wh fl.length := ⟨(Pl.pickOf wh fl.length).toNat, by have := Pl.pickOf_range wh fl.length (by omega); omega⟩
  have hJr := Pl.pickOf_range wh fl.length (by omega)
  rw [← hJ] at hJr
  have hJ2 : J < fl.length := by omega
  have HJ := Lib.hid hJ
  have HP12 : Hid (∀ w3 : World, Calls Tryz.prog 12 #[.int .i64 wh, .int .i64 fl.length] w3 fun e w' => e = .returned (.int .i64 J) ∧ w' = w3) := Lib.hid (by
    intro w3
    refine (pick_any wh fl.length w3 HWB.out.1 HWB.out.2 (by omega) (by omega)).mono ?_
    rintro e w' ⟨rfl, rfl⟩
    rw [← HJ.out]
    exact ⟨rfl, rfl⟩)
  clear hJ hJr
  obtain ⟨x0, x1, x2⟩ := box_cells (show w3.heap[w.heap.size]? = some (.cells #[.int .i64 ok, .int .i64 on, .string os] 24 (0, 0)) from (B3.out.block w.heap.size (by have := HSW.out; omega)).trans HBX.out)
  go_wp2_with fail
  obtain ⟨j0, j1, j2⟩ := tmCells_at fl J _ (List.getElem?_eq_getElem hJ2)
  have o0 := (World.ownsRow.cellAt HOW.out (J * 3) (by omega)).trans j0
  have o1 := (World.ownsRow.cellAt HOW.out (J * 3 + 1) (by omega)).trans j1
  have o2 := (World.ownsRow.cellAt HOW.out (J * 3 + 2) (by omega)).trans j2
  have f0 := World.ownsRow.frozenAt HOW.out (J * 3)
  have f1 := World.ownsRow.frozenAt HOW.out (J * 3 + 1)
  have f2 := World.ownsRow.frozenAt HOW.out (J * 3 + 2)
  have HPT := Lib.hid (own_put (x := ⟨ok, on, os⟩) HOW.out J hJ2)
  have HPB := Lib.hid (below_put (g := gb) B3.out (by omega) (J * 3) (J * 3 + 1) (J * 3 + 2) (.int .i64 ok) (.int .i64 on) (.string os))
  have HPB2 := Lib.hid (below_put (g := gb) HB23.out hgb (J * 3) (J * 3 + 1) (J * 3 + 2) (.int .i64 ok) (.int .i64 on) (.string os))
  clear j0 j1 j2
  go_still_tail 7, (by kernel_rfl)
  still_call (HP12.out _)
  repeat still_step
  refine wpStill_nil ?_
  change wpList _ _ _ _ _ w3.drew
  go_wp2_with fail
  obtain ⟨P, hP⟩ : ∃ P, P = ((w3.setCell ⟨gb, J * 3, none⟩ (.int .i64 ok)).setCell ⟨gb, J * 3 + 1, none⟩ (.int .i64 on)).setCell ⟨gb, J * 3 + 2, none⟩ (.string os) := ⟨_, rfl⟩
  have hPs : P.heap.size = w3.heap.size := by rw [hP]; simp [World.setCell]
  rw [← hP] at HPT HPB HPB2 ⊢
  obtain ⟨Q, hQ⟩ : ∃ Q, Q = P.drew := ⟨_, rfl⟩
  rw [← hQ]
  have BPQ : Hid (Below P.heap.size P Q) := Lib.hid (by rw [hQ]; exact (Below.refl _ _).drew)
  have HB : Hid (Below w.heap.size w Q) := Lib.hid (B0.out.trans ((HPB.out.trans (BPQ.out.mono HPB.out.size)).mono B0.out.size))
  have HRF : Hid (RowIn Q fd fo fl) := Lib.hid ((HFR.out.below HPB2.out hfd).below BPQ.out (by omega))
  have HTX2 : Hid (∀ t ∈ fl, t.s.size ≤ 9223372036854775807) := Lib.hid (by intro u hu; rw [HFL.out] at hu; exact Nat.le_trans (HGR.out.small u hu) (by decide))
  have HBN : Hid (TermsIn Q (.slice (some ⟨gb, 0, none⟩) fl.length gc) (fl.set J ⟨ok, on, os⟩)) := by
    refine Lib.hid (TermsIn.below (w := P) ?_ BPQ.out)
    have h := HPT.out
    have e : fl.length = (fl.set J ⟨ok, on, os⟩).length := by simp
    rw [e] at h ⊢
    refine own_terms (B := w2.heap.size) h ?_
    intro u hu
    rcases List.mem_or_eq_of_mem_set hu with h | h
    · exact HTX2.out u h
    · rw [h]; exact hod
  have HTF2 : Hid (TermsIn Q (.slice (some ⟨fd, fo, none⟩) fl.length fc) fl) := Lib.hid ⟨_, _, rfl, hfc, fun _ _ => rfl, fun _ => ⟨_, _, rfl, HRF.out⟩⟩
  have HNE : Hid (fl ≠ []) := Lib.hid (by rw [HFL.out]; exact Fm.flat_ne f)
  have HVB : Hid (true = Pl.validB fl) := Lib.hid (by rw [HFL.out]; exact ((Pl.validB_iff _).2 ⟨by rw [← HFL.out]; exact hl60, f, HGR.out.wf, hd12, rfl⟩).symm)
  have HNT : Hid (∀ n ∈ Pl.namesOf fl, 0 < Pl.typeOf n.data.toList) := Lib.hid (by rw [HFL.out]; exact names_typed HGR.out.wf)
  have HYQ : Hid (IntsArg Q (.slice ay ys.length cy2) ys) := Lib.hid (HYA.out.below HB.out)
  have HBV2 : Hid (Q.heap[w.heap.size + 1]? = some (.cells #[.int .i64 vk, .int .i64 vm, .string vt] 48 (0, 0))) := Lib.hid (((HPB.out.trans (BPQ.out.mono HPB.out.size)).block (w.heap.size + 1) (by have := HSW.out; omega)).trans HBV.out)
  clear hPs hQ hP o0 o1 o2 f0 f1 f2 x0 x1 x2 HP12 HPT HPB HPB2 HOW hs2 hs2b hs3
  go_wp2_with fail
  refine (in_any fl fd fo fc _ ys _ hfc HRF.out hl60 HNE.out HVB HYQ.out hyl HNT.out).mono ?_
  rintro e w6 ⟨ov, vs, rfl, hov, hvl, hfit, hb6⟩
  have hsm := fits_all hvl hfit
  have hvn : vs.length ≤ 37 := by rw [hvl]; exact Nat.le_trans (Pl.namesOf_len fl) hl37
  obtain ⟨ao, oc, rfl, hown⟩ := OwnV.of hov hsm
  have HSM := Lib.hid hsm
  have HB6 := Lib.hid (HB.out.trans (hb6.mono HB.out.size))
  have HX6 := Lib.hid hb6
  have HOV := Lib.hid hown
  have HTO := Lib.hid (OwnV.terms hov hsm)
  have hoc := hown.len
  clear hov hvl hfit hb6 hown hsm
  go_upto_region 7 with fail
  go_cut [20] from 48 to 50 (fun s20 wx => wx.ownsRow w6.heap.size 48 3 s20 vs.length (tmCells vs) ∧ Below w6.heap.size w6 wx)
  case first =>
    have HNL : Hid ((w6.alloc (.cells #[] 48)).ownsRow w6.heap.size 48 3 (.slice (some ⟨w6.heap.size, 0, none⟩) 0 0) 0 []) := Lib.hid (World.ownsRow_lit _ _ _ (Nat.le_refl _) (by decide) rfl)
    cases ao with
    | none =>
      obtain ⟨h0, rfl⟩ := HOV.out.nil rfl
      obtain rfl := List.eq_nil_of_length_eq_zero h0
      clear h0
      simp only [List.length_nil]
      go_wp2_with (at_builtin; go_loud (refine wpList_append_own_none rfl _ _ 49 rfl w6.heap.size 48 i1 3 Tryz.underlying49 hi1 _ 0 [] rfl HNL.out rfl ?_))
      go_meet
      case rel => exact ⟨HNL.out, below1 _ _⟩
    | some b =>
      have HRC := Lib.hid (show ∀ j u, (tmCells vs)[j]? = some u → (w6.alloc (.cells #[] 48)).cell? (b.add j) = some u from (HOV.out.below (below1 w6 _)).cells b rfl)
      go_wp2_with (at_builtin; go_loud (refine wpList_append_own _ rfl _ _ 49 rfl w6.heap.size 48 i1 (.agg #[.int .i64 0, .int .i64 0, .string ByteArray.empty]) 3 32 Tryz.underlying49 hi1 hy0 hy1 hy2 rfl (by decide) _ _ _ rfl HNL.out b vs.length oc (tmCells vs) rfl (tmCells_size3 _) HRC.out (tmCells_one _) (by simp [maxLen]; omega) (by omega) (by simp) ?_))
      intro v' w7 hown hgrow _
      have B7 := Lib.hid ((below1 w6 (.cells #[] 48)).grown hgrow (by simp) fun k hk => (World.ownsRow.lt HNL.out k hk).1)
      have hown2 : w7.ownsRow w6.heap.size 48 3 v' vs.length (tmCells vs) := by simpa using hown
      have HO7 := Lib.hid hown2
      clear hown hgrow HRC HNL hown2
      go_wp2_with fail
      go_meet
      case rel => exact ⟨HO7.out, B7.out⟩
  case rest =>
  obtain ⟨hrow, hB⟩ := hcut
  obtain ⟨a2, c2, rfl, hown2⟩ := OwnV.of hrow HSM.out
  have HR7 := Lib.hid hrow
  have HOT := Lib.hid hown2
  have BX7 := Lib.hid hB
  have hc2 := hown2.len
  clear hrow hB hown2
  obtain ⟨w7, hw7⟩ : ∃ W, W = wc := ⟨_, rfl⟩
  rw [← hw7] at HR7 HOT BX7 ⊢
  clear hw7
  have HBV7 : Hid (w7.heap[w.heap.size + 1]? = some (.cells #[.int .i64 vk, .int .i64 vm, .string vt] 48 (0, 0))) := Lib.hid (blk_keep (blk_keep HBV2.out HX6.out) BX7.out)
  go_upto_if 53 with fail
  go_cut [] from 51 to 60 (fun wx => (∃ us, TermsIn wx (.slice a2 vs.length c2) us) ∧ Below w6.heap.size w6 wx)
  case first =>
    by_cases hz : vs.length = 0
    · have hz' : ((vs.length : Int) > 0) = False := eq_false (by omega)
      have hz2 : decide ((vs.length : Int) > 0) = false := decide_eq_false (by omega)
      go_wp2_with fail
      go_meet
      case rel => exact ⟨⟨vs, OwnV.terms HR7.out HSM.out⟩, BX7.out⟩
    · obtain ⟨g2, cc, e2, hg2, hg3⟩ := World.ownsRow.form HR7.out (by omega)
      have hc3 : a2 = some ⟨g2, 0, none⟩ := by cases e2; rfl
      subst hc3
      clear e2 cc
      have hz2 : decide ((vs.length : Int) > 0) = true := decide_eq_true (by omega)
      have hz3 : (0 : Int) < (vs.length : Int) := by omega
      obtain ⟨K, hK⟩ : ∃ K : Nat, (K : Int) = Pl.pickOf wh vs.length := ⟨(Pl.pickOf wh vs.length).toNat, by have := Pl.pickOf_range wh vs.length (by omega); omega⟩
      have hKr := Pl.pickOf_range wh vs.length (by omega)
      rw [← hK] at hKr
      have hK2 : K < vs.length := by omega
      have HK := Lib.hid hK
      have HP13 : Hid (∀ w3 : World, Calls Tryz.prog 12 #[.int .i64 wh, .int .i64 vs.length] w3 fun e w' => e = .returned (.int .i64 K) ∧ w' = w3) := Lib.hid (by
        intro w3
        refine (pick_any wh vs.length w3 HWB.out.1 HWB.out.2 (by omega) (by omega)).mono ?_
        rintro e w' ⟨rfl, rfl⟩
        rw [← HK.out]
        exact ⟨rfl, rfl⟩)
      clear hK hKr
      obtain ⟨z0, z1, z2⟩ := box_cells HBV7.out
      go_wp2_with fail
      obtain ⟨j0, j1, j2⟩ := tmCells_at vs K _ (List.getElem?_eq_getElem hK2)
      have o0 := (World.ownsRow.cellAt HR7.out (K * 3) (by omega)).trans j0
      have o1 := (World.ownsRow.cellAt HR7.out (K * 3 + 1) (by omega)).trans j1
      have o2 := (World.ownsRow.cellAt HR7.out (K * 3 + 2) (by omega)).trans j2
      have f0 := World.ownsRow.frozenAt HR7.out (K * 3)
      have f1 := World.ownsRow.frozenAt HR7.out (K * 3 + 1)
      have f2 := World.ownsRow.frozenAt HR7.out (K * 3 + 2)
      have HPT := Lib.hid (own_put (x := ⟨vk, vm, vt⟩) HR7.out K hK2)
      have HPB := Lib.hid (below_put (g := g2) BX7.out hg2 (K * 3) (K * 3 + 1) (K * 3 + 2) (.int .i64 vk) (.int .i64 vm) (.string vt))
      clear j0 j1 j2
      go_still_tail 7, (by kernel_rfl)
      still_call (HP13.out _)
      repeat still_step
      refine wpStill_nil ?_
      change wpList _ _ _ _ _ w7.drew
      go_wp2_with fail
      go_meet
      case rel =>
        refine ⟨⟨vs.set K ⟨vk, vm, vt⟩, TermsIn.below ?_ ((Below.refl _ _).drew)⟩, HPB.out.drew⟩
        have h := HPT.out
        have e : vs.length = (vs.set K ⟨vk, vm, vt⟩).length := by simp
        rw [e] at h ⊢
        refine vals_terms (B := w6.heap.size) h ?_
        intro u hu
        rcases List.mem_or_eq_of_mem_set hu with h | h
        · exact Nat.le_trans (HSM.out u h) (by decide)
        · rw [h]; exact hvv
  case rest =>
  obtain ⟨⟨us, htt⟩, hB⟩ := hcut
  have HTT := Lib.hid htt
  have BXW := Lib.hid hB
  clear htt hB HR7 HOT BX7 HBV7
  obtain ⟨W, hW⟩ : ∃ W, W = wc := ⟨_, rfl⟩
  rw [← hW] at HTT BXW ⊢
  clear hW
  have BQW : Hid (Below Q.heap.size Q W) := Lib.hid (HX6.out.trans (BXW.out.mono HX6.out.size))
  have HBW : Hid (Below w.heap.size w W) := Lib.hid (HB.out.trans (BQW.out.mono HB.out.size))
  have HTFW := Lib.hid (HTF2.out.below BQW.out)
  have HBNW := Lib.hid (HBN.out.below BQW.out)
  have HYW := Lib.hid (HYQ.out.below BQW.out)
  have HBVW : Hid (W.heap[w.heap.size + 1]? = some (.cells #[.int .i64 vk, .int .i64 vm, .string vt] 48 (0, 0))) := Lib.hid (blk_keep HBV2.out BQW.out)
  have HOVW := Lib.hid (HOV.out.below BXW.out)
  have HTOW := Lib.hid (HTO.out.below BXW.out)
  obtain ⟨M, hM⟩ : ∃ M : Nat, M = min rs.length 20 := ⟨_, rfl⟩
  have hm1 : min (rs.length : Int) 20 = (M : Int) := by omega
  have hm2 : M ≤ rs.length := by omega
  obtain ⟨M6, hM6⟩ : ∃ M : Nat, M = min ls.length 6 := ⟨_, rfl⟩
  have hm3 : min (ls.length : Int) 6 = (M6 : Int) := by omega
  have hm4 : M6 ≤ ls.length := by omega
  have HTRW := Lib.hid (terms_take' (HTR.out.below HBW.out) hm2)
  have HTLW := Lib.hid (terms_take' (HTL.out.below HBW.out) hm4)
  have HLEN : Hid (∀ ts : List Tm, ts = fl ∨ ts = fl.set J ⟨ok, on, os⟩ ∨ ts = rs.take M → ts.length ≤ 9223372036854775807) := Lib.hid (by
    rintro ts (rfl | rfl | rfl)
    · omega
    · simp; omega
    · rw [List.length_take]; omega)
  have HIN : Hid (∀ X, Below W.heap.size W X → Calls Tryz.prog 27 #[.slice (some ⟨gb, 0, none⟩) fl.length gc, .slice ay ys.length cy2] X fun e X' => ∃ d us, e = .returned d ∧ TermsIn X' d us ∧ Below X.heap.size X X') := Lib.hid (by
    intro X hX
    have hT := HBNW.out.below hX
    have hY := HYW.out.below hX
    have hl : (fl.set J ⟨ok, on, os⟩).length ≤ 60 := by simp; omega
    have hne : fl.set J ⟨ok, on, os⟩ ≠ [] := by intro e; have := congrArg List.length e; simp at this; exact HNE.out this
    generalize fl.set J ⟨ok, on, os⟩ = ts at hT hl hne
    cases hv : Pl.validB ts with
    | false =>
      refine (in_bad _ ts _ _ _ X hT (by omega) (Lib.hid hv.symm)).mono ?_
      rintro e Y ⟨rfl, hb⟩
      exact ⟨_, [], rfl, ⟨none, 0, rfl, Nat.le_refl _, fun _ _ => rfl, fun h => absurd rfl h⟩, hb⟩
    | true =>
      obtain ⟨_, h, hwf, _, hth⟩ := (Pl.validB_iff ts).1 hv
      obtain ⟨hd, ho, hc, he, hhc, hrh, hhd⟩ := pairs_terms (f := h) (by rw [← hth]; exact hT)
      rw [← hth] at he hhc hrh
      rw [he]
      refine (in_any ts hd ho hc _ ys X hhc hrh hl hne (Lib.hid hv.symm) hY HYL.out (by rw [hth]; exact names_typed hwf)).mono ?_
      rintro e Y ⟨ov, vs, rfl, hov, hvl, hfit, hb⟩
      exact ⟨_, vs, rfl, vals_terms hov fun t ht => Nat.le_trans (fits_all hvl hfit t ht) (by decide), hb⟩)
  clear hM hM6 HTX HTB HWB HTR HTL HYA HBX HSW HX HG HGR HFL HFR HTF HRF HTF2 HBN HYQ HBV2 HX6 HOV HTO HTX2 HBV BPQ HVB HNT HNE HYL B0 B1 B2 B3 HB23 HB6 HB HSM HJ hgb hgb2 hyl hrl hll hqo hl37 hfp hfd hT1 hT2 hd12
  go_wp2_with fail
  go_loopw [21] (fun si wr => ∃ i : Nat, i ≤ 5 ∧ si = .int .i64 i ∧ Below W.heap.size W wr) (fun si _ => 5 - (intOf si).toNat)
  case atStart => exact ⟨0, by decide, rfl, Below.refl _ _⟩
  case round =>
    obtain ⟨i, hi, rfl, hbr⟩ := hrel
    have HBR := Lib.hid hbr
    clear hbr
    by_cases hlt : i < 5
    · go_upto_region 13 with fail
      go_cut [22] from 65 to 77 (fun s22 wx => (∃ ts, TermsIn wx s22 ts ∧ ts.length ≤ 9223372036854775807) ∧ Below wr.heap.size wr wx)
      case first =>
        have h5 : i = 0 ∨ i = 1 ∨ i = 2 ∨ i = 3 ∨ i = 4 := by omega
        rcases h5 with rfl | rfl | rfl | rfl | rfl
        all_goals
          go_wp2_with fail
          go_meet
        case rel => exact ⟨⟨_, (HTFW.out.below HBR.out).below (below1 _ _), HLEN.out _ (.inl rfl)⟩, below1 _ _⟩
        case rel => exact ⟨⟨_, (HBNW.out.below HBR.out).below (below1 _ _), HLEN.out _ (.inr (.inl rfl))⟩, below1 _ _⟩
        case rel => exact ⟨⟨_, (HTFW.out.below HBR.out).below (below1 _ _), HLEN.out _ (.inl rfl)⟩, below1 _ _⟩
        case rel => exact ⟨⟨_, (HTRW.out.below HBR.out).below (below1 _ _), HLEN.out _ (.inr (.inr rfl))⟩, below1 _ _⟩
        case rel => exact ⟨⟨_, (HTFW.out.below HBR.out).below (below1 _ _), HLEN.out _ (.inl rfl)⟩, below1 _ _⟩
      case rest =>
      obtain ⟨⟨ts, htt, htl⟩, hb⟩ := hcut
      have HTS := Lib.hid htt
      have HTN := Lib.hid htl
      have HBR5 := Lib.hid (HBR.out.trans (hb.mono HBR.out.size))
      clear htt htl hb
      obtain ⟨W5, hW5⟩ : ∃ W, W = wc := ⟨_, rfl⟩
      rw [← hW5] at HTS HBR5 ⊢
      clear hW5
      go_upto_region 14 with fail
      go_cut [23] from 78 to 100 (fun s23 wx => (∃ us, TermsIn wx s23 us) ∧ Below W5.heap.size W5 wx)
      case first =>
        have HBV5 : Hid (W5.heap[w.heap.size + 1]? = some (.cells #[.int .i64 vk, .int .i64 vm, .string vt] 48 (0, 0))) := Lib.hid (blk_keep HBVW.out HBR5.out)
        have HOV5 := Lib.hid (HOVW.out.below HBR5.out)
        have HTO5 := Lib.hid (HTOW.out.below HBR5.out)
        have HTT5 := Lib.hid (HTT.out.below HBR5.out)
        have HTL5 := Lib.hid (HTLW.out.below HBR5.out)
        have hi5 := hlt
        refine rg_regionV [(78, 0), (79, 1), (80, 2), (81, 3), (82, 4), (83, 5), (84, 6), (85, 7), (86, 8), (87, 9), (88, 10), (89, 11), (90, 12), (91, 13), (92, 14), (93, 15), (94, 16), (95, 17), (96, 18), (97, 19), (98, 20), (99, 21), (100, 22), (23, 23)] [2, 7, 13, 18, 19, 20, 21] 133 (fun kk d => match kk with | 0 => .slice ao vs.length oc | 1 => .slice (some ⟨gb, 0, none⟩) fl.length gc | 2 => .slice ay ys.length cy2 | 4 => .slice a2 vs.length c2 | 5 => .slice al ls.length cl | 6 => .slice al ls.length cl | 7 => .int .i64 (ls.length : Int) | 8 => .int .i64 (M6 : Int) | 9 => .slice al M6 cl | 10 => .slice ao vs.length oc | 11 => .slice ao vs.length oc | 12 => .int .i64 (vs.length : Int) | 13 => .slice ao vs.length oc | 14 => .int .i64 (vs.length : Int) | 15 => .slice ao vs.length vs.length | 16 => .agg #[.int .i64 vk, .int .i64 vm, .string vt] | 20 => .int .i64 (i : Int) | _ => d) (fun t => match t with | 2 => .slice ay ys.length cy2 | 7 => .slice al ls.length cl | 13 => .pointer (some ⟨w.heap.size + 1, 0, none⟩) | 18 => .slice (some ⟨gb, 0, none⟩) fl.length gc | 19 => .slice ao vs.length oc | 20 => .slice a2 vs.length c2 | 21 => .int .i64 (i : Int) | _ => undef) (JG (GR vk vm vt) W5) (by kernel_rfl) rfl (by kernel_rfl) ?_ (JG.start _ _) ?_ ?_
        · intro t ht; simp at ht; rcases ht with rfl | rfl | rfl | rfl | rfl | rfl | rfl <;> rfl
        · refine ⟨?_, ?_, ?_, ?_, ?_, ?_, ?_, ?_, ?_, ?_, ?_, ?_, ?_, ?_, ?_, ?_, ?_, ?_, ?_, ?_, ?_, ?_, ?_, ?_, trivial⟩
          · intro l ds X ρ hρ hl he hJ
            have e19 : ρ (.tmp 19) = .slice ao vs.length oc := by rw [hρ]; rfl
            have ec := rho_constV hρ
            clear hρ
            refine Gives.value (u := .slice ao vs.length oc) (X' := X) ?_ ⟨undef, fun _ => rfl, hJ.pure (GR.stays _ _ _ _) trivial⟩
            clear he hl hJ
            first | (go_simp; done) | (go_simp; omega) | (go_simp; rfl)
          · intro l ds X ρ hρ hl he hJ
            have e18 : ρ (.tmp 18) = .slice (some ⟨gb, 0, none⟩) fl.length gc := by rw [hρ]; rfl
            have ec := rho_constV hρ
            clear hρ
            refine Gives.value (u := .slice (some ⟨gb, 0, none⟩) fl.length gc) (X' := X) ?_ ⟨undef, fun _ => rfl, hJ.pure (GR.stays _ _ _ _) trivial⟩
            clear he hl hJ
            first | (go_simp; done) | (go_simp; omega) | (go_simp; rfl)
          · intro l ds X ρ hρ hl he hJ
            have e2 : ρ (.tmp 2) = .slice ay ys.length cy2 := by rw [hρ]; rfl
            have ec := rho_constV hρ
            clear hρ
            refine Gives.value (u := .slice ay ys.length cy2) (X' := X) ?_ ⟨undef, fun _ => rfl, hJ.pure (GR.stays _ _ _ _) trivial⟩
            clear he hl hJ
            first | (go_simp; done) | (go_simp; omega) | (go_simp; rfl)
          · intro l ds X ρ hρ hl he hJ
            have e79 : ρ (.tmp 79) = .slice (some ⟨gb, 0, none⟩) fl.length gc := by rw [hρ]; rfl
            have e80 : ρ (.tmp 80) = .slice ay ys.length cy2 := by rw [hρ]; rfl
            have ec := rho_constV hρ
            have ef := rho_funcV hρ
            clear hρ
            refine Gives.call (f := 27) (args := #[.slice (some ⟨gb, 0, none⟩) fl.length gc, .slice ay ys.length cy2]) (X' := X) ?_ ?_
            · clear he hl hJ
              first | (go_simp; done) | (go_simp; omega) | (go_simp; rfl)
            · refine (HIN.out X (HBR5.out.trans (hJ.1.mono HBR5.out.size))).mono ?_
              rintro e Z ⟨d, us, rfl, hT, hb⟩
              exact ⟨_, rfl, d, fun _ => rfl, hJ.op (GR.stays _ _ _ _) hb ⟨us, hT⟩⟩
          · intro l ds X ρ hρ hl he hJ
            have e20 : ρ (.tmp 20) = .slice a2 vs.length c2 := by rw [hρ]; rfl
            have ec := rho_constV hρ
            clear hρ
            refine Gives.value (u := .slice a2 vs.length c2) (X' := X) ?_ ⟨undef, fun _ => rfl, hJ.pure (GR.stays _ _ _ _) trivial⟩
            clear he hl hJ
            first | (go_simp; done) | (go_simp; omega) | (go_simp; rfl)
          · intro l ds X ρ hρ hl he hJ
            have e7 : ρ (.tmp 7) = .slice al ls.length cl := by rw [hρ]; rfl
            have ec := rho_constV hρ
            clear hρ
            refine Gives.value (u := .slice al ls.length cl) (X' := X) ?_ ⟨undef, fun _ => rfl, hJ.pure (GR.stays _ _ _ _) trivial⟩
            clear he hl hJ
            first | (go_simp; done) | (go_simp; omega) | (go_simp; rfl)
          · intro l ds X ρ hρ hl he hJ
            have e7 : ρ (.tmp 7) = .slice al ls.length cl := by rw [hρ]; rfl
            have ec := rho_constV hρ
            clear hρ
            refine Gives.value (u := .slice al ls.length cl) (X' := X) ?_ ⟨undef, fun _ => rfl, hJ.pure (GR.stays _ _ _ _) trivial⟩
            clear he hl hJ
            first | (go_simp; done) | (go_simp; omega) | (go_simp; rfl)
          · intro l ds X ρ hρ hl he hJ
            have e84 : ρ (.tmp 84) = .slice al ls.length cl := by rw [hρ]; rfl
            have ec := rho_constV hρ
            clear hρ
            refine Gives.value (u := .int .i64 (ls.length : Int)) (X' := X) ?_ ⟨undef, fun _ => rfl, hJ.pure (GR.stays _ _ _ _) trivial⟩
            clear he hl hJ
            first | (go_simp; done) | (go_simp; omega) | (go_simp; rfl)
          · intro l ds X ρ hρ hl he hJ
            have e85 : ρ (.tmp 85) = .int .i64 (ls.length : Int) := by rw [hρ]; rfl
            have ec := rho_constV hρ
            clear hρ
            refine Gives.value (u := .int .i64 (M6 : Int)) (X' := X) ?_ ⟨undef, fun _ => rfl, hJ.pure (GR.stays _ _ _ _) trivial⟩
            clear he hl hJ
            first | (go_simp; done) | (go_simp; omega) | (go_simp; rfl)
          · intro l ds X ρ hρ hl he hJ
            have e83 : ρ (.tmp 83) = .slice al ls.length cl := by rw [hρ]; rfl
            have e86 : ρ (.tmp 86) = .int .i64 (M6 : Int) := by rw [hρ]; rfl
            have ec := rho_constV hρ
            clear hρ
            refine Gives.value (u := .slice al M6 cl) (X' := X) ?_ ⟨undef, fun _ => rfl, hJ.pure (GR.stays _ _ _ _) trivial⟩
            clear he hl hJ
            first | (go_simp; done) | (go_simp; omega) | (go_simp; rfl)
          · intro l ds X ρ hρ hl he hJ
            have e19 : ρ (.tmp 19) = .slice ao vs.length oc := by rw [hρ]; rfl
            have ec := rho_constV hρ
            clear hρ
            refine Gives.value (u := .slice ao vs.length oc) (X' := X) ?_ ⟨undef, fun _ => rfl, hJ.pure (GR.stays _ _ _ _) trivial⟩
            clear he hl hJ
            first | (go_simp; done) | (go_simp; omega) | (go_simp; rfl)
          · intro l ds X ρ hρ hl he hJ
            have e19 : ρ (.tmp 19) = .slice ao vs.length oc := by rw [hρ]; rfl
            have ec := rho_constV hρ
            clear hρ
            refine Gives.value (u := .slice ao vs.length oc) (X' := X) ?_ ⟨undef, fun _ => rfl, hJ.pure (GR.stays _ _ _ _) trivial⟩
            clear he hl hJ
            first | (go_simp; done) | (go_simp; omega) | (go_simp; rfl)
          · intro l ds X ρ hρ hl he hJ
            have e89 : ρ (.tmp 89) = .slice ao vs.length oc := by rw [hρ]; rfl
            have ec := rho_constV hρ
            clear hρ
            refine Gives.value (u := .int .i64 (vs.length : Int)) (X' := X) ?_ ⟨undef, fun _ => rfl, hJ.pure (GR.stays _ _ _ _) trivial⟩
            clear he hl hJ
            first | (go_simp; done) | (go_simp; omega) | (go_simp; rfl)
          · intro l ds X ρ hρ hl he hJ
            have e19 : ρ (.tmp 19) = .slice ao vs.length oc := by rw [hρ]; rfl
            have ec := rho_constV hρ
            clear hρ
            refine Gives.value (u := .slice ao vs.length oc) (X' := X) ?_ ⟨undef, fun _ => rfl, hJ.pure (GR.stays _ _ _ _) trivial⟩
            clear he hl hJ
            first | (go_simp; done) | (go_simp; omega) | (go_simp; rfl)
          · intro l ds X ρ hρ hl he hJ
            have e91 : ρ (.tmp 91) = .slice ao vs.length oc := by rw [hρ]; rfl
            have ec := rho_constV hρ
            clear hρ
            refine Gives.value (u := .int .i64 (vs.length : Int)) (X' := X) ?_ ⟨undef, fun _ => rfl, hJ.pure (GR.stays _ _ _ _) trivial⟩
            clear he hl hJ
            first | (go_simp; done) | (go_simp; omega) | (go_simp; rfl)
          · intro l ds X ρ hρ hl he hJ
            have e88 : ρ (.tmp 88) = .slice ao vs.length oc := by rw [hρ]; rfl
            have e90 : ρ (.tmp 90) = .int .i64 (vs.length : Int) := by rw [hρ]; rfl
            have e92 : ρ (.tmp 92) = .int .i64 (vs.length : Int) := by rw [hρ]; rfl
            have ec := rho_constV hρ
            clear hρ
            refine Gives.value (u := .slice ao vs.length vs.length) (X' := X) ?_ ⟨undef, fun _ => rfl, hJ.pure (GR.stays _ _ _ _) trivial⟩
            clear he hl hJ
            first | (go_simp; done) | (go_simp; omega) | (go_simp; rfl)
          · intro l ds X ρ hρ hl he hJ
            have e13 : ρ (.tmp 13) = .pointer (some ⟨w.heap.size + 1, 0, none⟩) := by rw [hρ]; rfl
            have ec := rho_constV hρ
            clear hρ
            obtain ⟨z0, z1, z2⟩ := box_cells (blk_keep HBV5.out hJ.1)
            refine Gives.value (u := .agg #[.int .i64 vk, .int .i64 vm, .string vt]) (X' := X) ?_ ⟨undef, fun _ => rfl, hJ.pure (GR.stays _ _ _ _) trivial⟩
            clear he hl hJ
            first | (go_simp; done) | (go_simp; omega) | (go_simp; rfl)
          · intro l ds X ρ hρ hl he hJ
            have e94 : ρ (.tmp 94) = .agg #[.int .i64 vk, .int .i64 vm, .string vt] := by rw [hρ]; rfl
            have ec := rho_constV hρ
            clear hρ
            refine Gives.value (u := .slice (some ⟨X.heap.size, 0, none⟩) 1 1) (X' := X.alloc (.cells #[.int .i64 vk, .int .i64 vm, .string vt] 48)) ?_ ⟨_, fun _ => rfl, hJ.op (GR.stays _ _ _ _) (below1 X _) ⟨_, rfl, (MapKept.heap_alloc X _).1⟩⟩
            clear he hl hJ
            first | (go_simp; done) | (go_simp; omega) | (go_simp; rfl)
          · intro l ds X ρ hρ hl he hJ
            have e93 : ρ (.tmp 93) = .slice ao vs.length vs.length := by rw [hρ]; rfl
            have e95 : ρ (.tmp 95) = ds 17 := by rw [hρ]; rfl
            have ec := rho_constV hρ
            clear hρ
            obtain ⟨g, eg, hg⟩ := hJ.2 17 (he ⟨17, .data⟩ (by simp) rfl)
            rw [eg] at e95
            have HO := HOV5.out.below hJ.1
            refine Gives.append (.tmp 93) (.tmp 95) 49 rfl 48 i1 (.agg #[.int .i64 0, .int .i64 0, .string ByteArray.empty]) 3 32 Tryz.underlying49 hi1 hy0 hy1 hy2 rfl (by decide) ao vs.length vs.length (tmCells vs) e93 (fun e => ⟨(HO.nil e).1, (HO.nil e).1⟩) (tmCells_size3 _) HO.cells ⟨g, 0, none⟩ 1 1 (tmCells [⟨vk, vm, vt⟩]) e95 rfl (fun j u hj => ?_) (tmCells_one _) (by omega) (by simp [maxLen]; omega) (by omega) (fun v' w' h1 h2 => ⟨v', fun _ => rfl, hJ.op (GR.stays _ _ _ _) ((Below.refl _ _).grown h2 (Nat.le_refl _) (fun k hk => by cases hk)) ⟨_, terms_more h1 HO.small hvv⟩⟩)
            rw [add_plain, Lib.cell_of_heap hg]
            match j, hj with
            | 0, hj => exact hj
            | 1, hj => exact hj
            | 2, hj => exact hj
            | j + 3, hj => cases hj
          · intro l ds X ρ hρ hl he hJ
            have e78 : ρ (.tmp 78) = .slice ao vs.length oc := by rw [hρ]; rfl
            have e81 : ρ (.tmp 81) = ds 3 := by rw [hρ]; rfl
            have e82 : ρ (.tmp 82) = .slice a2 vs.length c2 := by rw [hρ]; rfl
            have e87 : ρ (.tmp 87) = .slice al M6 cl := by rw [hρ]; rfl
            have e96 : ρ (.tmp 96) = ds 18 := by rw [hρ]; rfl
            have ec := rho_constV hρ
            clear hρ
            obtain ⟨u1, t1⟩ := hJ.2 3 (he ⟨3, .data⟩ (by simp) rfl)
            obtain ⟨u4, t4⟩ := hJ.2 18 (he ⟨18, .data⟩ (by simp) rfl)
            obtain ⟨b1, d1, q1, _⟩ := id t1
            obtain ⟨b4, d4, q4, _⟩ := id t4
            rw [q1] at e81 t1
            rw [q4] at e96 t4
            have hb1 := below1 X (.cells #[.slice ao vs.length oc, .slice b1 u1.length d1, .slice a2 vs.length c2, .slice al M6 cl, .slice b4 u4.length d4] 49)
            refine Gives.value (u := .slice (some ⟨X.heap.size, 0, none⟩) 5 5) (X' := X.alloc (.cells #[.slice ao vs.length oc, .slice b1 u1.length d1, .slice a2 vs.length c2, .slice al M6 cl, .slice b4 u4.length d4] 49)) ?_ ⟨_, fun _ => rfl, hJ.op (GR.stays _ _ _ _) hb1 ⟨_, rfl, fun j hj => ?_⟩⟩
            · clear he hl hJ t1 t4 q1 q4 hb1
              first | (go_simp; done) | (go_simp; omega) | (go_simp; rfl)
            · have k0 := (HTO5.out.below hJ.1).below hb1
              have k2 := (HTT5.out.below hJ.1).below hb1
              have k3 := (HTL5.out.below hJ.1).below hb1
              rw [Lib.cell_of_heap (MapKept.heap_alloc X _).1]
              match j, hj with
              | 0, _ => exact ⟨_, _, rfl, k0⟩
              | 1, _ => exact ⟨_, _, rfl, t1.below hb1⟩
              | 2, _ => exact ⟨_, _, rfl, k2⟩
              | 3, _ => exact ⟨_, _, rfl, k3⟩
              | 4, _ => exact ⟨_, _, rfl, t4.below hb1⟩
              | j + 5, hj => omega
          · intro l ds X ρ hρ hl he hJ
            have e21 : ρ (.tmp 21) = .int .i64 (i : Int) := by rw [hρ]; rfl
            have ec := rho_constV hρ
            clear hρ
            refine Gives.value (u := .int .i64 (i : Int)) (X' := X) ?_ ⟨undef, fun _ => rfl, hJ.pure (GR.stays _ _ _ _) trivial⟩
            clear he hl hJ
            first | (go_simp; done) | (go_simp; omega) | (go_simp; rfl)
          · intro l ds X ρ hρ hl he hJ
            have e97 : ρ (.tmp 97) = ds 19 := by rw [hρ]; rfl
            have e98 : ρ (.tmp 98) = .int .i64 (i : Int) := by rw [hρ]; rfl
            have ec := rho_constV hρ
            clear hρ
            obtain ⟨g, eg, hg⟩ := hJ.2 19 (he ⟨19, .data⟩ (by simp) rfl)
            rw [eg] at e97
            refine Gives.value (u := .pointer (some ⟨g, i, none⟩)) (X' := X) ?_ ⟨_, fun _ => rfl, hJ.pure (GR.stays _ _ _ _) ⟨g, i, rfl, hg i hi5⟩⟩
            clear he hl hJ hg eg
            first | (go_simp; done) | (go_simp; omega) | (go_simp; rfl)
          · intro l ds X ρ hρ hl he hJ
            have e99 : ρ (.tmp 99) = ds 21 := by rw [hρ]; rfl
            have ec := rho_constV hρ
            clear hρ
            obtain ⟨g, j, eg, u, us, hc, hu⟩ := hJ.2 21 (he ⟨21, .data⟩ (by simp) rfl)
            rw [eg] at e99
            obtain ⟨b1, d1, q1, _⟩ := id hu
            subst q1
            refine Gives.value (u := .slice b1 us.length d1) (X' := X) ?_ ⟨_, fun _ => rfl, hJ.pure (GR.stays _ _ _ _) ⟨us, hu⟩⟩
            clear he hl hJ eg hu
            first | (go_simp; done) | (go_simp; omega) | (go_simp; rfl)
          · intro l ds X ρ hρ hl he hJ
            have e100 : ρ (.tmp 100) = ds 22 := by rw [hρ]; rfl
            have ec := rho_constV hρ
            clear hρ
            obtain ⟨us, hu⟩ := hJ.2 22 (he ⟨22, .data⟩ (by simp) rfl)
            refine Gives.value (u := ds 22) (X' := X) ?_ ⟨_, fun _ => rfl, hJ.pure (GR.stays _ _ _ _) ⟨us, hu⟩⟩
            clear he hl hJ hu
            first | (go_simp; done) | (go_simp; omega) | (go_simp; rfl)
        · intro lt ds X hlt hJ
          obtain ⟨us, hu⟩ := hJ.2 23 (hlt 23 (by decide))
          have hB := hJ.1
          simp only [putAllV, Act.put, List.setIfInBounds_toArray, List.set_cons_zero, List.set_cons_succ]
          generalize ds 23 = s23 at hu ⊢
          clear hJ hlt
          go_wp2_with fail
          go_meet
          case rel => exact ⟨⟨us, hu⟩, hB⟩
      case rest =>
      obtain ⟨⟨us2, hu2⟩, hb⟩ := hcut
      have HU := Lib.hid hu2
      have HB7 := Lib.hid (HBR5.out.trans (hb.mono HBR5.out.size))
      have HT7 := Lib.hid (HTS.out.below hb)
      clear hu2 hb HTS
      obtain ⟨W7, hW7⟩ : ∃ W, W = wc := ⟨_, rfl⟩
      rw [← hW7] at HU HB7 HT7 ⊢
      clear hW7
      obtain ⟨rk, rn, rst, rb, re, hsame⟩ := value_same ts us2 HTN.out
      have HSAME := Lib.hid hsame
      clear hsame
      go_wp2_with fail
      refine (HSAME.out _ _ W7 HT7.out HU.out).1.mono ?_
      rintro e w8 ⟨rfl, hb8⟩
      have HB8 := Lib.hid (HB7.out.trans (hb8.mono HB7.out.size))
      have HX8 := Lib.hid hb8
      clear hb8
      go_upto_region 16 with fail
      obtain ⟨W8, hW8⟩ : ∃ W8, W8 = w8.alloc (.cells #[.int .i64 rk, .int .i64 rn, .string rst] 48) := ⟨_, rfl⟩
      have HBA : Hid (W8.heap[w8.heap.size]? = some (.cells #[.int .i64 rk, .int .i64 rn, .string rst] 48 (0, 0))) := Lib.hid (by rw [hW8]; exact (MapKept.heap_alloc w8 _).1)
      have BX8 : Hid (Below w8.heap.size w8 W8) := Lib.hid (by rw [hW8]; exact below1 w8 _)
      rw [← hW8]
      clear hW8
      have HB9 := Lib.hid (HB8.out.trans (BX8.out.mono HB8.out.size))
      go_wp2_with fail
      refine (HSAME.out _ _ W8 ((HT7.out.below HX8.out).below BX8.out) ((HU.out.below HX8.out).below BX8.out)).2.mono ?_
      rintro e w9 ⟨rfl, hb9⟩
      have HB10 := Lib.hid (HB9.out.trans (hb9.mono HB9.out.size))
      have HX9 := Lib.hid hb9
      clear hb9
      go_upto_region 17 with fail
      obtain ⟨W9, hW9⟩ : ∃ W9, W9 = w9.alloc (.cells #[.int .i64 rk, .int .i64 rn, .string rst] 48) := ⟨_, rfl⟩
      obtain ⟨p0, p1, p2⟩ := box_cells (w := W9) (b := w9.heap.size) (x0 := .int .i64 rk) (x1 := .int .i64 rn) (x2 := .string rst) (T := 48) (by rw [hW9]; exact (MapKept.heap_alloc w9 _).1)
      obtain ⟨q0, q1, q2⟩ := box_cells (w := W9) (b := w8.heap.size) (x0 := .int .i64 rk) (x1 := .int .i64 rn) (x2 := .string rst) (T := 48) (by rw [hW9]; exact blk_keep (blk_keep HBA.out HX9.out) (below1 w9 _))
      have BX9 : Hid (Below w9.heap.size w9 W9) := Lib.hid (by rw [hW9]; exact below1 w9 _)
      rw [← hW9]
      clear hW9
      have HB11 := Lib.hid (HB10.out.trans (BX9.out.mono HB10.out.size))
      clear HB7 HB8 HB9 HB10 HBA HX8 HX9 BX8 BX9 HT7 HU HSAME
      go_wp2_with fail
      go_roundw
      case rel => exact ⟨i + 1, by omega, by go_num, HB11.out⟩
      case measure => simp [intOf]; omega
    · obtain rfl : i = 5 := by omega
      clear hlt
      rename World => W1
      obtain ⟨r, hr⟩ : ∃ r, r = Pl.validV ⟨vk, vm, vt⟩ := ⟨_, rfl⟩
      have HVR := Lib.hid hr
      clear hr
      have HBV1 : Hid (W1.heap[w.heap.size + 1]? = some (.cells #[.int .i64 vk, .int .i64 vm, .string vt] 48 (0, 0))) := Lib.hid (blk_keep HBVW.out HBR.out)
      go_upto_region 19 with fail
      refine rg_regionV [(128, 0), (129, 1), (130, 2), (131, 3), (132, 4), (16, 5)] [13] 133 (fun kk d => match kk with | 0 => .agg #[.int .i64 vk, .int .i64 vm, .string vt] | 1 => .bool r | 2 => .agg #[.int .i64 vk, .int .i64 vm, .string vt] | 3 => .bool r | 4 => .bool true | 5 => .bool true | _ => d) (fun t => match t with | 13 => .pointer (some ⟨w.heap.size + 1, 0, none⟩) | _ => undef) (JG (fun _ _ _ => True) W1) (by kernel_rfl) rfl (by kernel_rfl) ?_ (JG.start _ _) ?_ ?_
      · intro t ht; simp at ht; subst ht; rfl
      · refine ⟨?_, ?_, ?_, ?_, ?_, ?_, trivial⟩
        · intro l ds X ρ hρ hl he hJ
          have e13 : ρ (.tmp 13) = .pointer (some ⟨w.heap.size + 1, 0, none⟩) := by rw [hρ]; rfl
          have ec := rho_constV hρ
          clear hρ
          obtain ⟨z0, z1, z2⟩ := box_cells (blk_keep HBV1.out hJ.1)
          refine Gives.value (u := .agg #[.int .i64 vk, .int .i64 vm, .string vt]) (X' := X) ?_ ⟨undef, fun _ => rfl, hJ.pure (fun _ _ _ _ _ _ _ => trivial) trivial⟩
          clear he hl hJ
          first | (go_simp; done) | (go_simp; omega) | (go_simp; rfl)
        · intro l ds X ρ hρ hl he hJ
          have e128 : ρ (.tmp 128) = .agg #[.int .i64 vk, .int .i64 vm, .string vt] := by rw [hρ]; rfl
          have ec := rho_constV hρ
          have ef := rho_funcV hρ
          clear hρ
          refine Gives.call (f := 30) (args := #[.agg #[.int .i64 vk, .int .i64 vm, .string vt]]) (X' := X) ?_ ?_
          · clear he hl hJ
            first | (go_simp; done) | (go_simp; omega) | (go_simp; rfl)
          · refine (validValue_is ⟨vk, vm, vt⟩ r X HVR).mono ?_
            rintro e Z ⟨rfl, hb⟩
            exact ⟨_, rfl, undef, fun _ => rfl, hJ.op (fun _ _ _ _ _ _ _ => trivial) hb trivial⟩
        · intro l ds X ρ hρ hl he hJ
          have e13 : ρ (.tmp 13) = .pointer (some ⟨w.heap.size + 1, 0, none⟩) := by rw [hρ]; rfl
          have ec := rho_constV hρ
          clear hρ
          obtain ⟨z0, z1, z2⟩ := box_cells (blk_keep HBV1.out hJ.1)
          refine Gives.value (u := .agg #[.int .i64 vk, .int .i64 vm, .string vt]) (X' := X) ?_ ⟨undef, fun _ => rfl, hJ.pure (fun _ _ _ _ _ _ _ => trivial) trivial⟩
          clear he hl hJ
          first | (go_simp; done) | (go_simp; omega) | (go_simp; rfl)
        · intro l ds X ρ hρ hl he hJ
          have e130 : ρ (.tmp 130) = .agg #[.int .i64 vk, .int .i64 vm, .string vt] := by rw [hρ]; rfl
          have ec := rho_constV hρ
          have ef := rho_funcV hρ
          clear hρ
          refine Gives.call (f := 31) (args := #[.agg #[.int .i64 vk, .int .i64 vm, .string vt]]) (X' := X) ?_ ?_
          · clear he hl hJ
            first | (go_simp; done) | (go_simp; omega) | (go_simp; rfl)
          · refine (validValueR_is ⟨vk, vm, vt⟩ r X HVR).mono ?_
            rintro e Z ⟨rfl, hb⟩
            exact ⟨_, rfl, undef, fun _ => rfl, hJ.op (fun _ _ _ _ _ _ _ => trivial) hb trivial⟩
        · intro l ds X ρ hρ hl he hJ
          have e129 : ρ (.tmp 129) = .bool r := by rw [hρ]; rfl
          have e131 : ρ (.tmp 131) = .bool r := by rw [hρ]; rfl
          have ec := rho_constV hρ
          clear hρ
          refine Gives.value (u := .bool true) (X' := X) ?_ ⟨undef, fun _ => rfl, hJ.pure (fun _ _ _ _ _ _ _ => trivial) trivial⟩
          clear he hl hJ
          first | (go_simp; done) | (go_simp; omega) | (go_simp; rfl)
        · intro l ds X ρ hρ hl he hJ
          have e132 : ρ (.tmp 132) = .bool true := by rw [hρ]; rfl
          have ec := rho_constV hρ
          clear hρ
          refine Gives.value (u := .bool true) (X' := X) ?_ ⟨undef, fun _ => rfl, hJ.pure (fun _ _ _ _ _ _ _ => trivial) trivial⟩
          clear he hl hJ
          first | (go_simp; done) | (go_simp; omega) | (go_simp; rfl)
      · intro lt ds X hlt hJ
        have hB := hJ.1
        simp only [putAllV, Act.put, List.setIfInBounds_toArray, List.set_cons_zero, List.set_cons_succ]
        clear hJ hlt
        go_wp2_with fail
        go_ret
        exact ⟨rfl, HBW.out.trans ((HBR.out.trans (hB.mono HBR.out.size)).mono HBW.out.size)⟩
end Go.Proofs.YtchoelgkcnnnkaaGreatDoor
namespace Go.Proofs.YtchoelgkcnnnkaaGreatDoor.fnVmr
open Go.ChangeShapes Go.WideShapes Go.ChangeAt Go.RowKit
open Go.ChangeMaps (open_string shut_string)
theorem rowed_params : Rowed Tryz.f4.params.toList := by
  rw [Tryz.params4]
  exact Rowed.cons (by kernel_rfl) (by kernel_rfl) (Rowed.cons (by kernel_rfl) (by kernel_rfl) (Rowed.cons (by kernel_rfl) (by kernel_rfl) (Rowed.cons (by kernel_rfl) (by kernel_rfl) (Rowed.cons (by kernel_rfl) (by kernel_rfl) (Rowed.cons (by kernel_rfl) (by kernel_rfl) (Rowed.cons (by kernel_rfl) (by kernel_rfl) (Rowed.cons (by kernel_rfl) (by kernel_rfl) (Rowed.nil))))))))
set_option maxRecDepth 100000 in
theorem contract (H : Type) (enc : TypeId × Value → H) (W : World) (base : Nat) (args : Array Value) (ds gs : List (DataW H)) (before : List MemPlace)
    (hval : ∀ (j : Nat) t v, Tryz.f4.params[j]? = some t → args[j]? = some v → Value.okWide Tryz.prog W .any base t v)
    (hW : DataW.Whole enc Tryz.prog Tryz.f4.params.toList Rows.formulaValuesMatchReferenceSpec.vars false W args.toList ds gs before) (hL : laidMetH Tryz.prog Rows.formulaValuesMatchReferenceRow.laid W) :
    Calls Tryz.prog 4 args W fun e W' => ∃ v, e = .returned v ∧ Rows.formulaValuesMatchReferenceSpec.post enc Tryz.prog Tryz.f4 false true false false W args v W' := by
  have hW' := hW
  obtain ⟨p, q, hA0, hV, rfl, hfz, hnd⟩ := hW
  have hA : DataW.TrodAll enc Tryz.prog W 0 (fun _ => true) true Tryz.f4.params.toList args.toList ds p := hA0
  rw [Tryz.params4] at hA hval
  obtain ⟨v0, vs0, d0, ds0, p0, q0, hargs, rfl, rfl, h0, r0⟩ := trodAll_cons hA
  obtain ⟨v1, vs1, d1, ds1, p1, q1, rfl, rfl, rfl, h1, r1⟩ := trodAll_cons r0
  obtain ⟨v2, vs2, d2, ds2, p2, q2, rfl, rfl, rfl, h2, r2⟩ := trodAll_cons r1
  obtain ⟨v3, vs3, d3, ds3, p3, q3, rfl, rfl, rfl, h3, r3⟩ := trodAll_cons r2
  obtain ⟨v4, vs4, d4, ds4, p4, q4, rfl, rfl, rfl, h4, r4⟩ := trodAll_cons r3
  obtain ⟨v5, vs5, d5, ds5, p5, q5, rfl, rfl, rfl, h5, r5⟩ := trodAll_cons r4
  obtain ⟨v6, vs6, d6, ds6, p6, q6, rfl, rfl, rfl, h6, r6⟩ := trodAll_cons r5
  obtain ⟨v7, vs7, d7, ds7, p7, q7, rfl, rfl, rfl, h7, r7⟩ := trodAll_cons r6
  obtain ⟨rfl, rfl, rfl⟩ := trodAll_nil r7
  obtain rfl : args = #[v0, v1, v2, v3, v4, v5, v6, v7] := by rw [← Array.toList_inj]; exact hargs
  obtain ⟨rfl, rfl⟩ := trodVars_none hV
  clear hA0 hfz hnd hV
  obtain ⟨x0, rfl, rfl, rfl, w0⟩ := open_int Tryz.underlying3 (hval 0 3 v0 rfl rfl) h0
  have b0 := bounds_i64 w0
  obtain ⟨xs1, hx1, hn1⟩ := open_pairs (hval 1 22 v1 rfl rfl) h1
  obtain ⟨ys2, hy2, hm2⟩ := open_intsin (hval 2 46 v2 rfl rfl) h2
  obtain ⟨_, _, _, T3⟩ := isTm24
  obtain ⟨u3, rfl, k3⟩ := open_tm T3 (hval 3 24 v3 rfl rfl) h3
  obtain ⟨x4, rfl, rfl, rfl, w4⟩ := open_int Tryz.underlying3 (hval 4 3 v4 rfl rfl) h4
  have b4 := bounds_i64 w4
  obtain ⟨_, _, _, T5⟩ := isTm48
  obtain ⟨u5, rfl, k5⟩ := open_tm T5 (hval 5 48 v5 rfl rfl) h5
  obtain ⟨_, _, _, T6⟩ := isTm24
  obtain ⟨rs6, hr6, hq6, ho6⟩ := open_terms T6 Tryz.underlying25 (hval 6 25 v6 rfl rfl) h6
  obtain ⟨_, _, _, T7⟩ := isTm48
  obtain ⟨rs7, hr7, hq7, ho7⟩ := open_terms T7 Tryz.underlying49 (hval 7 49 v7 rfl rfl) h7
  have walk := vmr_any x0 x4 v1 xs1 v2 ys2 u3 u5 v6 rs6 v7 rs7 W b0 b4 hx1 hn1 hy2 hm2 k3 k5 hr6 hq6 hr7 hq7 ho7 (glob_of hL)
  refine walk.mono fun e W' ⟨he, hg⟩ => ?_
  subst he
  exact ⟨_, rfl, post_true rfl rfl hW' rowed_params rfl rfl rfl hg⟩
theorem reads (os : Os) {H : Type} (enc : TypeId × Value → H) : ∃ places, DataW.whole enc Tryz.prog ((laidWorld os).forCall (fun _ _ => 0) ⟨#[], #[.int .i64 0, .slice none 0 0, .slice none 0 0, .agg #[.int .i64 0, .int .i64 0, .string ⟨#[]⟩], .int .i64 0, .agg #[.int .i64 0, .int .i64 0, .string ⟨#[]⟩], .slice none 0 0, .slice none 0 0], []⟩).memory Tryz.f4.params.toList Rows.formulaValuesMatchReferenceSpec.vars false (#[.int .i64 0, .slice none 0 0, .slice none 0 0, .agg #[.int .i64 0, .int .i64 0, .string ⟨#[]⟩], .int .i64 0, .agg #[.int .i64 0, .int .i64 0, .string ⟨#[]⟩], .slice none 0 0, .slice none 0 0] : Array Value).toList 8 = some ([.lit (.int .i64 0), .nil, .nil, .agg [.lit (.int .i64 0), .lit (.int .i64 0), .lit (.string [])], .lit (.int .i64 0), .agg [.lit (.int .i64 0), .lit (.int .i64 0), .lit (.string [])], .nil, .nil], [], places) :=
  ⟨[], by kernel_rfl⟩
set_option maxRecDepth 100000 in
theorem lifted (os : Os) (started : os.Started) (H : Type) (enc : TypeId × Value → H) (F : Stop.Interp) :
    ReturnsInHanded {} Tryz.checked os 4 .any ((OpenSpec.ofChange Rows.formulaValuesMatchReferenceSpec).preRow enc Tryz.prog Tryz.f4 Rows.formulaValuesMatchReferenceRow.domain false Rows.formulaValuesMatchReferenceRow.laid) (((OpenSpec.ofChange Rows.formulaValuesMatchReferenceSpec).at F).post enc Tryz.prog Tryz.f4 false true false false) := by
  obtain ⟨places, hx⟩ := reads os enc
  refine returnsInHanded_of_row (C := Tryz.checked) (s := OpenSpec.ofChange Rows.formulaValuesMatchReferenceSpec) row_own started (by kernel_rfl) Tryz.func4
    (witness_row_at (enc := enc) (C := Tryz.checked) false (laidWorld os) #[.int .i64 0, .slice none 0 0, .slice none 0 0, .agg #[.int .i64 0, .int .i64 0, .string ⟨#[]⟩], .int .i64 0, .agg #[.int .i64 0, .int .i64 0, .string ⟨#[]⟩], .slice none 0 0, .slice none 0 0] rfl (by kernel_rfl) (by kernel_rfl) (by kernel_rfl)
      (OpenSpec.preRow_of_cond 8 hx (by kernel_rfl) (fun k hk => by cases hk) (by kernel_rfl) (laid_met os _))) ?_
  intro W base args ds gs before hval hW _ _ _ hL _ _
  exact contract H enc W base args ds gs before hval hW hL
theorem said : Rows.FormulaValuesMatchReferenceSaid :=
  OpenClaim.holds_of_cond 4 Tryz.f4 rfl rfl rfl rfl rfl rfl rfl ⟨rfl, rfl, rfl, rfl, rfl⟩ rfl rfl rfl rfl rfl (by kernel_rfl) Tryz.func4 (by kernel_rfl)
    (of_decide_eq_true (by kernel_rfl)) (by unfold Func.isWrapper; first | (rw [if_pos (by decide +kernel)]; kernel_rfl) | (rw [if_neg (by decide +kernel)]; exact ⟨rfl, rfl⟩))
    (fun os started H enc _ F => by rw [OpenClaim.pre_eq_preRow]; exact lifted os started H enc F)
/-- No parameter wants a stand-in; the program's looks are the card's. -/
theorem plain (f : FuncId) (fn : Func) (hf : Tryz.pinned.checked.prog.funcNamed "slatewall/slatewalllaw15.FormulaValuesMatchReference" = some f) (hfn : Tryz.pinned.checked.prog.funcs[f]? = some fn) :
    true = Tryz.pinned.checked.prog.looks [] ∧ ∀ (j : Nat) t, fn.params[j]? = some t → Tryz.pinned.checked.prog.wantsStandIn t = false := by
  obtain rfl : f = 4 := Option.some.inj ((show Tryz.prog.funcNamed "slatewall/slatewalllaw15.FormulaValuesMatchReference" = some 4 by kernel_rfl).symm.trans hf) |>.symm
  obtain rfl : fn = Tryz.f4 := (Option.some.inj (Tryz.func4.symm.trans hfn)).symm
  refine ⟨by kernel_rfl, fun j t ht => ?_⟩
  rw [Tryz.params4] at ht
  have h : t = 3 ∨ t = 22 ∨ t = 24 ∨ t = 25 ∨ t = 46 ∨ t = 48 ∨ t = 49 := by
    have := Array.mem_of_getElem? ht
    simp at this
    by_cases q3 : t = 3
    · simp [q3]
    by_cases q22 : t = 22
    · simp [q22]
    by_cases q24 : t = 24
    · simp [q24]
    by_cases q25 : t = 25
    · simp [q25]
    by_cases q46 : t = 46
    · simp [q46]
    by_cases q48 : t = 48
    · simp [q48]
    by_cases q49 : t = 49
    · simp [q49]
    simp [q3, q22, q24, q25, q46, q48, q49] at this
  rcases h with rfl | rfl | rfl | rfl | rfl | rfl | rfl
  · exact (show Tryz.prog.wantsStandIn 3 = false by kernel_rfl)
  · exact (show Tryz.prog.wantsStandIn 22 = false by kernel_rfl)
  · exact (show Tryz.prog.wantsStandIn 24 = false by kernel_rfl)
  · exact (show Tryz.prog.wantsStandIn 25 = false by kernel_rfl)
  · exact (show Tryz.prog.wantsStandIn 46 = false by kernel_rfl)
  · exact (show Tryz.prog.wantsStandIn 48 = false by kernel_rfl)
  · exact (show Tryz.prog.wantsStandIn 49 = false by kernel_rfl)
theorem card : Rows.FormulaValuesMatchReferenceCardSaid :=
  Claim7.holds_tied_plain_at .later [] _ _ _ _ said (fun _ h => by cases h) (by kernel_rfl) (fun _ h => by cases h) formulaValuesMatchReference_row_tie rfl ⟨rfl, rfl⟩ (by kernel_rfl) rfl plain (by kernel_rfl)
end Go.Proofs.YtchoelgkcnnnkaaGreatDoor.fnVmr
