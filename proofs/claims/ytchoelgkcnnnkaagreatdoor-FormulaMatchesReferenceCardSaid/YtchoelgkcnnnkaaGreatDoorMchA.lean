/- WALK: FormulaMatchesReference. -/
import Derived.Test.YtchoelgkcnnnkaaGreatDoorTabA
import Derived.Test.YtchoelgkcnnnkaaGreatDoorRefT
import Derived.Test.YtchoelgkcnnnkaaGreatDoorRefO
import Derived.Test.YtchoelgkcnnnkaaGreatDoorTypA
import Derived.StillTailTactics
import Derived.Deep.RegionHeld3
set_option linter.all false
namespace Go.Proofs.YtchoelgkcnnnkaaGreatDoor
open Go.RowKit
theorem tmCells_setM (ts : List Tm) (x : Tm) : ∀ (i : Nat), i < ts.length → (((tmCells ts).set (i * 3) (.int .i64 x.k)).set (i * 3 + 1) (.int .i64 x.n)).set (i * 3 + 2) (.string x.s) = tmCells (ts.set i x) := by
  induction ts with
  | nil => intro i h; simp at h
  | cons t r ih =>
    intro i h
    have e : tmCells (t :: r) = Value.int .i64 t.k :: Value.int .i64 t.n :: Value.string t.s :: tmCells r := rfl
    cases i with
    | zero => rfl
    | succ i =>
      have e2 : tmCells ((t :: r).set (i + 1) x) = Value.int .i64 t.k :: Value.int .i64 t.n :: Value.string t.s :: tmCells (r.set i x) := rfl
      have := ih i (by simpa using h)
      rw [e, e2, ← this, show (i + 1) * 3 = i * 3 + 1 + 1 + 1 by omega]
      simp only [List.set_cons_succ]
/-- A term in the place of one of a row that is owned. -/
theorem own_put {w : World} {B g n cap : Nat} {ts : List Tm} {x : Tm} {e : TypeId} (h : w.ownsRow B e 3 (.slice (some ⟨g, 0, none⟩) n cap) n (tmCells ts)) (i : Nat) (hi : i < ts.length) :
    (((w.setCell ⟨g, i * 3, none⟩ (.int .i64 x.k)).setCell ⟨g, i * 3 + 1, none⟩ (.int .i64 x.n)).setCell ⟨g, i * 3 + 2, none⟩ (.string x.s)).ownsRow B e 3 (.slice (some ⟨g, 0, none⟩) n cap) n (tmCells (ts.set i x)) := by
  have h1 := (World.ownsRow.stored h (i * 3) (.int .i64 x.k)).1
  have h2 := (World.ownsRow.stored h1 (i * 3 + 1) (.int .i64 x.n)).1
  have h3 := (World.ownsRow.stored h2 (i * 3 + 2) (.string x.s)).1
  rw [tmCells_setM ts x i hi] at h3
  exact h3
theorem below_put {B : Nat} {w0 w : World} {g : Nat} (h : Below B w0 w) (hg : B ≤ g) (o1 o2 o3 : Nat) (u1 u2 u3 : Value) : Below B w0 (((w.setCell ⟨g, o1, none⟩ u1).setCell ⟨g, o2, none⟩ u2).setCell ⟨g, o3, none⟩ u3) :=
  ((h.setCell (p := ⟨g, o1, none⟩) hg _).setCell (p := ⟨g, o2, none⟩) hg _).setCell (p := ⟨g, o3, none⟩) hg _
theorem own_capM {w : World} {B g n cap : Nat} {e : TypeId} {size : Nat} {xs : List Value} (h : w.ownsRow B e size (.slice (some ⟨g, 0, none⟩) n cap) n xs) : n ≤ cap := by
  rcases h.2 with ⟨h1, _⟩ | ⟨g', cap', cur, h1, _, _, hn, _⟩
  · cases h1
  · cases h1; exact hn
/-- A block of slices of terms. -/
structure SlBlk (w : World) (g : Nat) (L : List (Value × List Tm)) : Prop where
  lt : g < w.heap.size
  cell : ∀ (j : Nat) (x : Value × List Tm), L[j]? = some x → w.cell? ⟨g, j, none⟩ = some x.1
  terms : ∀ (j : Nat) (x : Value × List Tm), L[j]? = some x → TermsIn w x.1 x.2 ∧ x.2.length ≤ 61
theorem SlBlk.below {w w' : World} {g : Nat} {L : List (Value × List Tm)} (h : SlBlk w g L) (hb : Below w.heap.size w w') : SlBlk w' g L :=
  ⟨Nat.lt_of_lt_of_le h.lt hb.size, fun j x hj => (hb.cell (p := ⟨g, j, none⟩) h.lt).trans (h.cell j x hj), fun j x hj => ⟨(h.terms j x hj).1.below hb, (h.terms j x hj).2⟩⟩
theorem strsIn_nil (w : World) (a : Option Addr) (c : Nat) : StrsIn w (.slice a 0 c) [] := ⟨a, c, rfl, Nat.zero_le _, fun h => absurd rfl h⟩
theorem terms_take' {w : World} {a : Option Addr} {n c k : Nat} {ts : List Tm} (h : TermsIn w (.slice a n c) ts) (hk : k ≤ ts.length) : TermsIn w (.slice a k c) (ts.take k) := by
  obtain ⟨a', c', e, hc, hs, hr⟩ := h
  simp only [Value.slice.injEq] at e
  obtain ⟨rfl, rfl, rfl⟩ := e
  have hl : (ts.take k).length = k := by rw [List.length_take]; omega
  refine ⟨a, c, by rw [hl], by rw [hl]; omega, hs, fun hne => ?_⟩
  obtain ⟨b, off, rfl, hrow⟩ := hr (by intro e; rw [e] at hne; simp at hne)
  refine ⟨b, off, rfl, fun i t ht => hrow i t ?_⟩
  rw [List.getElem?_take] at ht
  split at ht
  · exact ht
  · cases ht
theorem sl_len {w : World} {a : Option Addr} {n c : Nat} {ts : List Tm} (h : TermsIn w (.slice a n c) ts) : n = ts.length ∧ n ≤ c := by
  obtain ⟨a', c', e, hc, _⟩ := h
  simp only [Value.slice.injEq] at e
  obtain ⟨rfl, rfl, rfl⟩ := e
  exact ⟨rfl, hc⟩
set_option maxRecDepth 100000 in
set_option maxHeartbeats 16000000 in
theorem mch_any (t wh cu : Int) (vx : Value) (xs : List (Int × Int)) (od : Tm) (vr : Value) (rs : List Tm) (s : ByteArray) (c : UInt8) (w : World)
    (ht : -9223372036854775808 ≤ t ∧ t ≤ 9223372036854775807) (hw : -9223372036854775808 ≤ wh ∧ wh ≤ 9223372036854775807) (hcu : -9223372036854775808 ≤ cu ∧ cu ≤ 9223372036854775807)
    (hs : s.size ≤ 9223372036854775807) (hx : PairsIn w vx xs) (hxl : xs.length ≤ 9223372036854775807) (hod : od.s.size ≤ 9223372036854775807) (hr : TermsIn w vr rs) (hrl : rs.length ≤ 9223372036854775807) (hG : Glob w) :
    Calls Tryz.prog 3 #[.int .i64 t, vx, od.agg, .int .i64 wh, vr, .string s, .int .u8 c.toNat, .int .i64 cu] w fun e w' => e = .returned (.bool true) ∧ Below w.heap.size w w' := by
  obtain ⟨n, hn⟩ : ∃ n : Nat, 100000013 < n := ⟨_, Nat.lt_succ_self _⟩
  obtain ⟨ok, on, os⟩ := od
  obtain ⟨i0, hi0, hz0, hz1, hz2⟩ := info_parts info24
  have HX := Lib.hid hx
  have HG := Lib.hid hG
  have HTB := Lib.hid ht
  have HWB := Lib.hid hw
  have HCB := Lib.hid hcu
  have HN := Lib.hid hn
  have HTR := Lib.hid hr
  obtain ⟨a, ca, rfl, _⟩ := hx
  obtain ⟨ar, cr, rfl, hcr, _⟩ := hr
  unfold Tm.agg
  dsimp only at hod ⊢
  clear hG ht hw hn hcu
  go_enter Tryz.func3, Tryz.ntmps3
  go_wp2_with fail
  obtain ⟨W0, hW0⟩ : ∃ W0, W0 = w.alloc (.cells #[.int .i64 ok, .int .i64 on, .string os] 24) := ⟨_, rfl⟩
  have HBX : Hid (W0.heap[w.heap.size]? = some (.cells #[.int .i64 ok, .int .i64 on, .string os] 24 (0, 0))) := Lib.hid (by rw [hW0]; exact (MapKept.heap_alloc w _).1)
  have B0 : Hid (Below w.heap.size w W0) := Lib.hid (by rw [hW0]; exact below1 w _)
  rw [← hW0]
  have hsW0 : W0.heap.size = w.heap.size + 1 := by rw [hW0]; simp
  have HSW := Lib.hid hsW0
  clear hW0 hsW0
  refine (sane_any _ (HG.out.below B0.out HG.out.size)).mono ?_
  rintro e w1 ⟨rfl, hb1⟩
  have B1 := Lib.hid hb1
  clear hb1
  go_wp2_with fail
  refine (formula_any t _ xs _ HTB.out ((HX.out.below B0.out).below B1.out) hxl).mono ?_
  rintro e w2 ⟨f, v, rfl, hg, hT, hb2⟩
  have B2 := Lib.hid (B1.out.trans (hb2.mono B1.out.size))
  have HGR := Lib.hid hg
  have hlen := hg.len
  have hdep := hg.depth
  have hl37 : f.flat.length ≤ 37 := by omega
  have hl60 : f.flat.length ≤ 60 := by omega
  have hd12 : f.depth ≤ 12 := by omega
  have hfp := Fm.flat_pos f
  have htl := Pl.text_len f hg.wf
  have htn : (Pl.text f).length ≠ 0 := by intro e; exact Pl.text_ne f hg.wf (List.length_eq_zero_iff.1 e)
  obtain ⟨T, hTx⟩ : ∃ T, T = mkS (Pl.text f) := ⟨_, rfl⟩
  have hTs : T.size = (Pl.text f).length := by rw [hTx]; rfl
  have hT1 : 1 ≤ T.size := by omega
  have hT2 : T.size ≤ 2700 := by omega
  have HTX := Lib.hid hTx
  obtain ⟨fd, fo, fc, rfl, hfc, hfrow, hfd⟩ := pairs_terms hT
  have HFR := Lib.hid hfrow
  have HTF := Lib.hid hT
  have hs2 := hb2.size
  have hs2b := B2.out.size
  obtain ⟨fl, hfl⟩ : ∃ fl, fl = f.flat := ⟨_, rfl⟩
  have HFL := Lib.hid hfl
  rw [← hfl] at HTF HFR hl37 hl60 hfp hfc ⊢
  have HNL : Hid ((w2.alloc (.cells #[] 24)).ownsRow w2.heap.size 24 3 (.slice (some ⟨w2.heap.size, 0, none⟩) 0 0) 0 []) := Lib.hid (World.ownsRow_lit _ _ _ (Nat.le_refl _) (by decide) rfl)
  have HRW := Lib.hid (HFR.out.below (below1 w2 (.cells #[] 24)) hfd)
  have HRC := Lib.hid (show ∀ j u, (tmCells fl)[j]? = some u → (w2.alloc (.cells #[] 24)).cell? ((⟨fd, fo, none⟩ : Addr).add j) = some u from fun j u hj => by rw [add_plain]; exact row_cells fl fo HRW.out j u hj)
  clear hg hT hb2 htl htn hTs hTx hlen hdep hfrow hfl
  go_wp2_with (at_builtin; go_loud (refine wpList_append_own _ rfl _ _ 25 rfl w2.heap.size 24 i0 (.agg #[.int .i64 0, .int .i64 0, .string ByteArray.empty]) 3 32 Tryz.underlying25 hi0 hz0 hz1 hz2 rfl (by decide) _ _ _ rfl HNL.out ⟨fd, fo, none⟩ fl.length fc (tmCells fl) rfl (tmCells_size3 _) HRC.out (tmCells_one _) (by simp [maxLen]; omega) (by omega) (by simp) ?_))
  intro v' w3 hown hgrow _
  have hown2 : w3.ownsRow w2.heap.size 24 3 v' fl.length (tmCells fl) := by simpa using hown
  obtain ⟨gb, gc, rfl, hgb, hgb2⟩ := World.ownsRow.form hown2 (by omega)
  have HOW := Lib.hid hown2
  have hgc := own_capM hown2
  have B3 := Lib.hid ((B2.out.alloc hs2b _).grown hgrow (by simp; omega) fun k hk => by have := (World.ownsRow.lt HNL.out k hk).1; omega)
  have HB23 : Hid (Below w2.heap.size w2 w3) := Lib.hid ((below1 w2 (.cells #[] 24)).grown hgrow (by simp) fun k hk => (World.ownsRow.lt HNL.out k hk).1)
  have hs3 := B3.out.size
  clear hown hown2 hgrow HRC HRW HNL
  obtain ⟨J, hJ⟩ : ∃ J : Nat, (J : Int) = Pl.pickOf wh fl.length := ⟨(Pl.pickOf wh fl.length).toNat, by have := Pl.pickOf_range wh fl.length (by omega); omega⟩
  have hJr := Pl.pickOf_range wh fl.length (by omega)
  rw [← hJ] at hJr
  have hJ2 : J < fl.length := by omega
  have HJ := Lib.hid hJ
  have HP12 : Hid (∀ w3 : World, Calls Tryz.prog 12 #[.int .i64 wh, .int .i64 fl.length] w3 fun e w' => e = .returned (.int .i64 J) ∧ w' = w3) := Lib.hid (by
    intro w3
    refine (pick_any wh fl.length w3 HWB.out.1 HWB.out.2 (by omega) (by omega)).mono ?_
    rintro e w' ⟨rfl, rfl⟩
    rw [← HJ.out]
    exact ⟨rfl, rfl⟩)
  clear hJ hJr
  obtain ⟨x0, x1, x2⟩ := box_cells (show w3.heap[w.heap.size]? = some (.cells #[.int .i64 ok, .int .i64 on, .string os] 24 (0, 0)) from (B3.out.block w.heap.size (by have := HSW.out; omega)).trans HBX.out)
  go_wp2_with fail
  obtain ⟨j0, j1, j2⟩ := tmCells_at fl J _ (List.getElem?_eq_getElem hJ2)
  have o0 := (World.ownsRow.cellAt HOW.out (J * 3) (by omega)).trans j0
  have o1 := (World.ownsRow.cellAt HOW.out (J * 3 + 1) (by omega)).trans j1
  have o2 := (World.ownsRow.cellAt HOW.out (J * 3 + 2) (by omega)).trans j2
  have f0 := World.ownsRow.frozenAt HOW.out (J * 3)
  have f1 := World.ownsRow.frozenAt HOW.out (J * 3 + 1)
  have f2 := World.ownsRow.frozenAt HOW.out (J * 3 + 2)
  have HPT := Lib.hid (own_put (x := ⟨ok, on, os⟩) HOW.out J hJ2)
  have HPB := Lib.hid (below_put (g := gb) B3.out (by omega) (J * 3) (J * 3 + 1) (J * 3 + 2) (.int .i64 ok) (.int .i64 on) (.string os))
  have HPB2 := Lib.hid (below_put (g := gb) HB23.out hgb (J * 3) (J * 3 + 1) (J * 3 + 2) (.int .i64 ok) (.int .i64 on) (.string os))
  obtain ⟨M, hM⟩ : ∃ M : Nat, M = min rs.length 61 := ⟨_, rfl⟩
  have hm1 : min (rs.length : Int) 61 = (M : Int) := by omega
  have hm2 : M ≤ rs.length := by omega
  have hm3 : M ≤ 61 := by omega
  clear j0 j1 j2 hM
  go_still_tail 7, (by kernel_rfl)
  still_call (HP12.out _)
  repeat still_step
  refine wpStill_nil ?_
  change wpList _ _ _ _ _ w3.drew
  go_wp2_with fail
  obtain ⟨P, hP⟩ : ∃ P, P = ((w3.setCell ⟨gb, J * 3, none⟩ (.int .i64 ok)).setCell ⟨gb, J * 3 + 1, none⟩ (.int .i64 on)).setCell ⟨gb, J * 3 + 2, none⟩ (.string os) := ⟨_, rfl⟩
  have hPs : P.heap.size = w3.heap.size := by rw [hP]; simp [World.setCell]
  rw [← hP] at HPT HPB HPB2 ⊢
  obtain ⟨W, hW⟩ : ∃ W, W = (P.alloc (.cells #[.slice (some ⟨fd, fo, none⟩) fl.length fc, .slice (some ⟨gb, 0, none⟩) fl.length gc, .slice ar M cr] 25)).drew := ⟨_, rfl⟩
  rw [← hW]
  have BPW : Hid (Below P.heap.size P W) := Lib.hid (by rw [hW]; exact (below1 P _).drew)
  have HB : Hid (Below w.heap.size w W) := Lib.hid (B0.out.trans ((HPB.out.trans (BPW.out.mono HPB.out.size)).mono B0.out.size))
  have HRF : Hid (RowIn W fd fo fl) := Lib.hid ((HFR.out.below HPB2.out hfd).below BPW.out (by omega))
  have HTX2 : Hid (∀ t ∈ fl, t.s.size ≤ 9223372036854775807) := Lib.hid (by intro u hu; rw [HFL.out] at hu; exact Nat.le_trans (HGR.out.small u hu) (by decide))
  have HSL : Hid (SlBlk W w3.heap.size [(.slice (some ⟨fd, fo, none⟩) fl.length fc, fl), (.slice (some ⟨gb, 0, none⟩) fl.length gc, fl.set J ⟨ok, on, os⟩), (.slice ar M cr, rs.take M)]) := by
    rw [← hPs]
    refine Lib.hid ⟨by rw [hW]; show _ < (P.alloc _).heap.size; simp, ?_, ?_⟩
    · intro j x hj
      rw [hW]
      show (P.alloc _).cell? _ = _
      rw [Lib.cell_of_heap (MapKept.heap_alloc P _).1]
      match j, hj with
      | 0, hj => simp at hj; subst hj; rfl
      | 1, hj => simp at hj; subst hj; rfl
      | 2, hj => simp at hj; subst hj; rfl
      | j + 3, hj => simp at hj
    · intro j x hj
      match j, hj with
      | 0, hj => simp at hj; subst hj; exact ⟨⟨_, _, rfl, hfc, fun _ _ => rfl, fun _ => ⟨_, _, rfl, HRF.out⟩⟩, by show fl.length ≤ 61; omega⟩
      | 1, hj =>
        simp at hj; subst hj
        refine ⟨TermsIn.below (w := P) ?_ BPW.out, by simp; omega⟩
        have h := HPT.out
        have e : fl.length = (fl.set J ⟨ok, on, os⟩).length := by simp
        rw [e] at h ⊢
        refine own_terms (B := w2.heap.size) h ?_
        intro u hu
        rcases List.mem_or_eq_of_mem_set hu with h | h
        · exact HTX2.out u h
        · rw [h]; exact hod
      | 2, hj => simp at hj; subst hj; exact ⟨terms_take' (HTR.out.below HB.out) hm2, by rw [List.length_take]; omega⟩
      | j + 3, hj => simp at hj
  obtain ⟨L, hL⟩ : ∃ L : List (Value × List Tm), L = [(.slice (some ⟨fd, fo, none⟩) fl.length fc, fl), (.slice (some ⟨gb, 0, none⟩) fl.length gc, fl.set J ⟨ok, on, os⟩), (.slice ar M cr, rs.take M)] := ⟨_, rfl⟩
  have HLL : Hid (L.length = 3) := Lib.hid (by rw [hL]; rfl)
  rw [← hL] at HSL
  have HBOX : Hid (W.heap[w.heap.size]? = some (.cells #[.int .i64 ok, .int .i64 on, .string os] 24 (0, 0))) := Lib.hid (((HPB.out.trans (BPW.out.mono HPB.out.size)).block w.heap.size (by have := HSW.out; omega)).trans HBX.out)
  have hfdW : fd < W.heap.size := by have := HB.out.size; have := BPW.out.size; omega
  have hwW : w.heap.size < W.heap.size := by have := (Array.getElem?_eq_some_iff.1 HBOX.out).1; exact this
  have hgP := HSL.out.lt
  clear hm1 hPs hW hL hP o0 o1 o2 f0 f1 f2 x0 x1 x2 HP12 HPT HPB HPB2
  go_wp2_with fail
  go_loopw [72] (fun si wr => ∃ i : Nat, i ≤ 3 ∧ si = .int .i64 i ∧ Below W.heap.size W wr) (fun si _ => 3 - (intOf si).toNat)
  case atStart => exact ⟨0, by decide, rfl, Below.refl _ _⟩
  case round =>
    obtain ⟨i, hi, rfl, hbr⟩ := hrel
    have HBR := Lib.hid hbr
    clear hbr
    by_cases hlt : i < 3
    · obtain ⟨x, hx⟩ : ∃ x, L[i]? = some x := ⟨L[i]'(by rw [HLL.out]; exact hlt), by simp⟩
      have c0 := (HSL.out.below HBR.out).cell i x hx
      obtain ⟨hT, htl⟩ := HSL.out.terms i x hx
      obtain ⟨v, ts⟩ := x
      dsimp only at c0 hT htl
      have HT := Lib.hid hT
      clear hx hT
      obtain ⟨vr, hvr⟩ : ∃ r, r = Pl.validB ts := ⟨_, rfl⟩
      have HV := Lib.hid hvr
      cases vr with
      | false =>
        clear hvr
        obtain ⟨va, vc, rfl, _⟩ := HT.out
        obtain ⟨S, hS⟩ : ∃ S, S = mkS [] := ⟨_, rfl⟩
        have HS := Lib.hid hS
        clear hS
        go_wp2_with fail
        refine (print_bad _ ts _ (HT.out.below HBR.out) (by omega) HV).mono ?_
        rintro e y1 ⟨rfl, hb⟩
        rw [← HS.out]
        have HB1 := Lib.hid (HBR.out.trans (hb.mono HBR.out.size))
        have HY1 := Lib.hid (HT.out.below HB1.out)
        clear hb
        go_wp2_with fail
        refine (printR_bad _ ts _ HY1.out (by omega) HV).mono ?_
        rintro e y2 ⟨rfl, hb⟩
        rw [← HS.out]
        have HB2 := Lib.hid (HB1.out.trans (hb.mono HB1.out.size))
        have HY2 := Lib.hid (HT.out.below HB2.out)
        clear hb
        go_wp2_with fail
        refine (names_bad _ ts _ HY2.out (by omega) HV).mono ?_
        rintro e y3 ⟨rfl, hb⟩
        have HB3 := Lib.hid (HB2.out.trans (hb.mono HB2.out.size))
        have HY3 := Lib.hid (HT.out.below HB3.out)
        clear hb
        go_wp2_with fail
        refine (namesR_bad _ ts _ HY3.out (by omega) HV).mono ?_
        rintro e y4 ⟨rfl, hb⟩
        have HB4 := Lib.hid (HB3.out.trans (hb.mono HB3.out.size))
        have HY4 := Lib.hid (HT.out.below HB4.out)
        clear hb
        go_wp2_with fail
        refine (type_bad _ ts _ HY4.out (by omega) HV).mono ?_
        rintro e y5 ⟨rfl, hb⟩
        have HB5 := Lib.hid (HB4.out.trans (hb.mono HB4.out.size))
        have HY5 := Lib.hid (HT.out.below HB5.out)
        clear hb
        go_wp2_with fail
        refine (typeR_bad _ ts _ HY5.out (by omega) HV).mono ?_
        rintro e y6 ⟨rfl, hb⟩
        have HB6 := Lib.hid (HB5.out.trans (hb.mono HB5.out.size))
        have HY6 := Lib.hid (HT.out.below HB6.out)
        clear hb
        go_wp2_with fail
        refine (strings_true _ _ [] _ (strsIn_nil _ none 0) (strsIn_nil _ none 0) (by decide)).mono ?_
        rintro e y7 ⟨rfl, hb⟩
        have HB7 := Lib.hid (HB6.out.trans (hb.mono HB6.out.size))
        have HY7 := Lib.hid (HT.out.below HB7.out)
        clear hb
        go_wp2_with fail
        refine (valid_any _ ts false _ HY7.out (by omega) HV).mono ?_
        rintro e y8 ⟨rfl, hb⟩
        have HB8 := Lib.hid (HB7.out.trans (hb.mono HB7.out.size))
        have HY8 := Lib.hid (HT.out.below HB8.out)
        clear hb
        go_wp2_with fail
        refine (validR_any _ ts false _ HY8.out (by omega) HV).mono ?_
        rintro e y9 ⟨rfl, hb⟩
        have HB9 := Lib.hid (HB8.out.trans (hb.mono HB8.out.size))
        have HY9 := Lib.hid (HT.out.below HB9.out)
        clear hb
        go_wp2_with fail
        go_roundw
        case rel => exact ⟨i + 1, by omega, by go_num, HB9.out⟩
        case measure => simp [intOf]; omega
      | true =>
        obtain ⟨hh60, h, hwf, hh12, hth⟩ := (Pl.validB_iff ts).1 hvr.symm
        have HWF := Lib.hid hwf
        obtain ⟨hd, ho, hc, rfl, hhc, hrh, hhd⟩ := pairs_terms (f := h) (by rw [← hth]; exact HT.out)
        have HNE : Hid (ts ≠ []) := Lib.hid (by rw [hth]; exact Fm.flat_ne h)
        subst hth
        have HRH := Lib.hid hrh
        obtain ⟨S, hS⟩ : ∃ S, S = mkS (Pl.text h) := ⟨_, rfl⟩
        obtain ⟨TY, hTY⟩ : ∃ TY, TY = Pl.ty h := ⟨_, rfl⟩
        obtain ⟨WA, hWA⟩ : ∃ WA, WA = Pl.wrongAt h 0 (-1) := ⟨_, rfl⟩
        have HS := Lib.hid hS
        have HTY := Lib.hid hTY
        have HWA := Lib.hid hWA
        clear hvr hwf hrh hS hTY hWA
        go_wp2_with fail
        refine (print_ok _ h _ (HT.out.below HBR.out) (HG.out.below (HB.out.trans (HBR.out.mono HB.out.size)) HG.out.size) HWF.out hh60 hh12).mono ?_
        rintro e y1 ⟨rfl, hb⟩
        have HB1 := Lib.hid (HBR.out.trans (hb.mono HBR.out.size))
        have HY1 := Lib.hid (HT.out.below HB1.out)
        clear hb
        rw [← HS.out]
        go_wp2_with fail
        refine (printR_ok _ h _ HY1.out HWF.out hh60 hh12).mono ?_
        rintro e y2 ⟨rfl, hb⟩
        have HB2 := Lib.hid (HB1.out.trans (hb.mono HB1.out.size))
        have HY2 := Lib.hid (HT.out.below HB2.out)
        clear hb
        rw [← HS.out]
        go_wp2_with fail
        refine (names_ok h.flat hd ho hc _ hhc (HRH.out.below HB2.out hhd) hh60 HNE.out HV).mono ?_
        rintro e y3 ⟨n3, rfl, hsn, hb⟩
        have HN3 := Lib.hid (strs_of_at hsn)
        have HB3 := Lib.hid (HB2.out.trans (hb.mono HB2.out.size))
        have HY3 := Lib.hid (HT.out.below HB3.out)
        clear hb hsn
        go_wp2_with fail
        refine (namesR_ok h.flat hd ho hc _ hhc (HRH.out.below HB3.out hhd) hh60 HNE.out HV).mono ?_
        rintro e y4 ⟨n4, rfl, hsn, hb⟩
        have HN4 := Lib.hid (strs_of_at hsn)
        have HB4 := Lib.hid (HB3.out.trans (hb.mono HB3.out.size))
        have HY4 := Lib.hid (HT.out.below HB4.out)
        have HN3b := Lib.hid (HN3.out.below hb)
        clear hb hsn
        have HNL2 : Hid ((Pl.namesOf h.flat).length ≤ 1000000000) := Lib.hid (Nat.le_trans (Pl.namesOf_len h.flat) (by omega))
        obtain ⟨na, nc, rfl, _⟩ := HN3.out
        obtain ⟨nb, nd, rfl, _⟩ := HN4.out
        go_wp2_with fail
        refine (type_ok _ h _ HY4.out HWF.out hh60 hh12).mono ?_
        rintro e y5 ⟨rfl, hb⟩
        have HB5 := Lib.hid (HB4.out.trans (hb.mono HB4.out.size))
        have HX5 := Lib.hid hb
        have HY5 := Lib.hid (HT.out.below HB5.out)
        clear hb
        rw [← HTY.out, ← HWA.out]
        go_wp2_with fail
        refine (typeR_ok h hd ho hc _ hhc (HRH.out.below HB5.out hhd) HWF.out hh60 hh12).mono ?_
        rintro e y6 ⟨rfl, hb⟩
        have HB6 := Lib.hid (HB5.out.trans (hb.mono HB5.out.size))
        have HX6 := Lib.hid (HX5.out.trans (hb.mono HX5.out.size))
        have HY6 := Lib.hid (HT.out.below HB6.out)
        clear hb
        rw [← HTY.out, ← HWA.out]
        go_wp2_with fail
        refine (strings_true _ _ _ _ (HN3b.out.below HX6.out) (HN4.out.below HX6.out) HNL2.out).mono ?_
        rintro e y7 ⟨rfl, hb⟩
        have HB7 := Lib.hid (HB6.out.trans (hb.mono HB6.out.size))
        have HY7 := Lib.hid (HT.out.below HB7.out)
        clear hb
        go_wp2_with fail
        refine (valid_any _ h.flat true _ HY7.out (by omega) HV).mono ?_
        rintro e y8 ⟨rfl, hb⟩
        have HB8 := Lib.hid (HB7.out.trans (hb.mono HB7.out.size))
        have HY8 := Lib.hid (HT.out.below HB8.out)
        clear hb
        go_wp2_with fail
        refine (validR_any _ h.flat true _ HY8.out (by omega) HV).mono ?_
        rintro e y9 ⟨rfl, hb⟩
        have HB9 := Lib.hid (HB8.out.trans (hb.mono HB8.out.size))
        have HY9 := Lib.hid (HT.out.below HB9.out)
        clear hb
        go_wp2_with fail
        go_roundw
        case rel => exact ⟨i + 1, by omega, by go_num, HB9.out⟩
        case measure => simp [intOf]; omega
    · obtain rfl : i = 3 := by omega
      clear hlt hgP
      rename World => W1
      have HTW : Hid (TermsIn W1 (.slice (some ⟨fd, fo, none⟩) fl.length fc) f.flat) := Lib.hid (by
        rw [← HFL.out]
        exact ⟨_, _, rfl, hfc, fun _ _ => rfl, fun _ => ⟨_, _, rfl, HRF.out.below HBR.out hfdW⟩⟩)
      have HF60 : Hid (f.flat.length ≤ 60) := Lib.hid (by rw [← HFL.out]; exact hl60)
      go_wp2_with fail
      refine (printR_ok _ f _ HTW.out HGR.out.wf HF60.out hd12).mono ?_
      rintro e w6 ⟨rfl, hb⟩
      rw [← HTX.out]
      have HB6 := Lib.hid (HBR.out.trans (hb.mono HBR.out.size))
      clear hb HTW HF60
      go_wp2_with fail
      obtain ⟨A, hA⟩ : ∃ A : Nat, (A : Int) = Pl.pickOf wh T.size := ⟨(Pl.pickOf wh T.size).toNat, by have := Pl.pickOf_range wh T.size (by omega); omega⟩
      have hAr := Pl.pickOf_range wh T.size (by omega)
      rw [← hA] at hAr
      have HA := Lib.hid hA
      clear hA
      refine (pick_any wh T.size _ HWB.out.1 HWB.out.2 (by omega) (by omega)).mono ?_
      rintro e w7 ⟨rfl, rfl⟩
      rw [← HA.out]
      have hA1 : A ≤ T.size := by omega
      have hA2 : A + 1 ≤ T.size := by omega
      have hwr : IntKind.i64.wrap ((A : Int) + 1) = (A : Int) + 1 := by rw [IntKind.wrap_i64]; omega
      have htn : ((A : Int) + 1).toNat = A + 1 := by omega
      have k1 : (convert 40 9 (.slice (some ⟨w6.heap.size, 0, none⟩) 1 1)).run Tryz.prog (w6.alloc (.cells #[.int .u8 c.toNat] 5)).drew = .ok (.string ⟨#[c]⟩) (w6.alloc (.cells #[.int .u8 c.toNat] 5)).drew := one_byte w6.drew c.toNat c rfl
      have hsW6 := HB6.out.size
      go_upto_region 22 with fail
      go_cut [38] from 161 to 172 (fun s38 wx => s38 = .string (Pl.bent T A c) ∧ Below W.heap.size W wx)
      case first =>
        go_region
        all_goals
          go_wp2_with fail
          go_meet
          case rel => exact ⟨rfl, below_drewN' (HB6.out.alloc hsW6 _) 1⟩
      case rest =>
      obtain ⟨rfl, hB⟩ := hcut
      have HB7 := Lib.hid hB
      obtain ⟨W7, hW7⟩ : ∃ W7, W7 = wc := ⟨_, rfl⟩
      rw [← hW7] at HB7 ⊢
      clear hB hW7 k1
      have k2 : (convert 40 9 (.slice (some ⟨W7.heap.size, 0, none⟩) 1 1)).run Tryz.prog (W7.alloc (.cells #[.int .u8 c.toNat] 5)).drew = .ok (.string ⟨#[c]⟩) (W7.alloc (.cells #[.int .u8 c.toNat] 5)).drew := one_byte W7.drew c.toNat c rfl
      have hsW7 := HB7.out.size
      go_upto_region 23 with fail
      go_cut [39] from 173 to 183 (fun s39 wx => s39 = .string (T.extract 0 A ++ ⟨#[c]⟩ ++ T.extract A T.size) ∧ Below W.heap.size W wx)
      case first =>
        go_region
        all_goals
          go_wp2_with fail
          go_meet
          case rel => exact ⟨rfl, below_drewN' (HB7.out.alloc hsW7 _) 1⟩
      case rest =>
      obtain ⟨rfl, hB⟩ := hcut
      have HB8 := Lib.hid hB
      obtain ⟨W8, hW8⟩ : ∃ W8, W8 = wc := ⟨_, rfl⟩
      rw [← hW8] at HB8 ⊢
      clear hB hW8 k2
      have hz1 := Pl.bent_size T A c (by omega)
      have hz2 : (T.extract 0 A ++ ⟨#[c]⟩ ++ T.extract A T.size).size = T.size + 1 := by
        rw [ByteArray.size_append, ByteArray.size_append, ByteArray.size_extract, ByteArray.size_extract]
        show min A T.size - 0 + 1 + (min T.size T.size - A) = T.size + 1
        omega
      obtain ⟨z1, hz1e⟩ : ∃ z1, z1 = Pl.bent T A c := ⟨_, rfl⟩
      obtain ⟨z2, hz2e⟩ : ∃ z2, z2 = T.extract 0 A ++ ⟨#[c]⟩ ++ T.extract A T.size := ⟨_, rfl⟩
      rw [← hz1e] at hz1 ⊢
      rw [← hz2e] at hz2 ⊢
      obtain ⟨K, hK⟩ : ∃ K : Nat, (K : Int) = Pl.pickOf cu (T.size + 1) := ⟨(Pl.pickOf cu (T.size + 1)).toNat, by have := Pl.pickOf_range cu (T.size + 1) (by omega); omega⟩
      have hKr := Pl.pickOf_range cu (T.size + 1) (by omega)
      rw [← hK] at hKr
      have hK2 : K ≤ T.size := by omega
      have HK := Lib.hid hK
      have HPK : Hid (∀ w3 : World, Calls Tryz.prog 12 #[.int .i64 cu, .int .i64 ((T.size : Int) + 1)] w3 fun e w' => e = .returned (.int .i64 K) ∧ w' = w3) := Lib.hid (by
        intro w3
        refine (pick_any cu ((T.size : Int) + 1) w3 HCB.out.1 HCB.out.2 (by omega) (by omega)).mono ?_
        rintro e w' ⟨rfl, rfl⟩
        rw [← HK.out]
        exact ⟨rfl, rfl⟩)
      obtain ⟨M1, hM1⟩ : ∃ M1 : Nat, M1 = min s.size 200 := ⟨_, rfl⟩
      obtain ⟨M2, hM2⟩ : ∃ M2 : Nat, M2 = min os.size 60 := ⟨_, rfl⟩
      have hm4 : min (s.size : Int) 200 = (M1 : Int) := by omega
      have hm5 : M1 ≤ s.size ∧ M1 ≤ 200 := by omega
      have hm6 : min (os.size : Int) 60 = (M2 : Int) := by omega
      have hm7 : M2 ≤ os.size ∧ M2 ≤ 60 := by omega
      have hwr2 : IntKind.i64.wrap ((T.size : Int) + 1) = (T.size : Int) + 1 := by rw [IntKind.wrap_i64]; omega
      obtain ⟨x0, x1, x2⟩ := box_cells (show W8.heap[w.heap.size]? = some (.cells #[.int .i64 ok, .int .i64 on, .string os] 24 (0, 0)) from (HB8.out.block w.heap.size hwW).trans HBOX.out)
      clear hK hKr hz1e hz2e hM1 hM2 x0 x1
      have HX3 : Hid (∀ o, (W8.alloc o).cell? ⟨w.heap.size, 2, none⟩ = some (.string os)) := Lib.hid fun o => ((below1 W8 o).cell (p := ⟨w.heap.size, 2, none⟩) (Nat.lt_of_lt_of_le hwW HB8.out.size)).trans x2
      obtain ⟨zs, hzs⟩ : ∃ zs : List ByteArray, zs = [s.extract 0 M1, T, z1, z2, T.extract 0 K, os.extract 0 M2] := ⟨_, rfl⟩
      have HZS := Lib.hid hzs
      clear hzs
      go_upto_region 24 with fail
      go_cut [206, 207, 208] from 184 to 208 (fun s206 s207 s208 wx => ∃ g, s206 = .slice (some ⟨g, 0, none⟩) 6 6 ∧ s207 = .int .i64 6 ∧ s208 = .int .i64 0 ∧ StrsBlk wx g zs ∧ Below W.heap.size W wx)
      case first =>
        go_region_held3 (fun w' => w'.cell? ⟨w.heap.size, 2, none⟩ = some (.string os)) (first | exact x2 | exact HX3.out _) (first | (go_at_call 12; refine (HPK.out _).mono ?_; rintro e w9 ⟨rfl, rfl⟩))
        all_goals
          go_wp2_with fail
          go_meet
          case rel => exact ⟨_, rfl, rfl, rfl, by rw [HZS.out]; exact StrsBlk.new rfl (by simp), below_drewN' (HB8.out.alloc HB8.out.size _) 1⟩
      case rest =>
      obtain ⟨g, rfl, rfl, rfl, hS, hB⟩ := hcut
      have HSB := Lib.hid hS
      have HB9 := Lib.hid hB
      obtain ⟨W9, hW9⟩ : ∃ W9, W9 = wc := ⟨_, rfl⟩
      rw [← hW9] at HSB HB9 ⊢
      have HZL : Hid (zs.length = 6) := Lib.hid (by rw [HZS.out]; rfl)
      have HZ : Hid (∀ (j : Nat) (z : ByteArray), zs[j]? = some z → z.size ≤ 3000) := by
        refine Lib.hid ?_
        rw [HZS.out]
        intro j z hz
        match j, hz with
        | 0, hz => simp at hz; subst hz; rw [ByteArray.size_extract]; omega
        | 1, hz => simp at hz; subst hz; omega
        | 2, hz => simp at hz; subst hz; omega
        | 3, hz => simp at hz; subst hz; omega
        | 4, hz => simp at hz; subst hz; rw [ByteArray.size_extract]; omega
        | 5, hz => simp at hz; subst hz; rw [ByteArray.size_extract]; omega
        | j + 6, hz => simp at hz
      clear hS hB hW9 hm4 hm5 hm6 hm7 hwr2 hwr htn x2 HX3 HPK hz1 hz2 hK2
      go_wp2_with fail
      go_loopw [208] (fun si wr => ∃ i : Nat, i ≤ 6 ∧ si = .int .i64 i ∧ Below W9.heap.size W9 wr) (fun si _ => 6 - (intOf si).toNat)
      case atStart => exact ⟨0, by decide, rfl, Below.refl _ _⟩
      case round =>
        obtain ⟨i, hi, rfl, hbr⟩ := hrel
        have HBR2 := Lib.hid hbr
        clear hbr
        by_cases hlt : i < 6
        · obtain ⟨z, hz⟩ : ∃ z, zs[i]? = some z := ⟨zs[i]'(by rw [HZL.out]; exact hlt), by simp⟩
          have hzl := HZ.out i z hz
          have hcl := (HSB.out.below HBR2.out HSB.out.1).2 i z hz
          obtain ⟨o, q, hp⟩ : ∃ o q, Pl.par n z = (o, q) := ⟨_, _, rfl⟩
          have HGR2 := Lib.hid (HG.out.below (HB.out.trans ((HB9.out.trans (HBR2.out.mono HB9.out.size)).mono HB.out.size)) HG.out.size)
          have HN2 : Hid (z.size < n) := Lib.hid (by have := HN.out; omega)
          obtain ⟨ty, hty⟩ : ∃ ty, ty = Pl.typeOf z.data.toList := ⟨_, rfl⟩
          have HTYZ := Lib.hid hty
          have HP := Lib.hid hp
          clear hz hty hp
          cases o with
          | none =>
            go_wp2_with fail
            refine (parse_none z (by omega) n q HN2.out _ HGR2.out HP).mono ?_
            rintro e y1 ⟨rfl, hb⟩
            have HC1 := Lib.hid (HBR2.out.trans (hb.mono HBR2.out.size))
            clear hb
            have h23 := parseR_par z (by omega) n HN2.out y1
            rw [HP.out] at h23
            go_wp2_with fail
            refine h23.mono ?_
            rintro e y2 ⟨rfl, hb⟩
            have HC2 := Lib.hid (HC1.out.trans (hb.mono HC1.out.size))
            clear hb h23
            go_wp2_with fail
            refine (same_true _ _ [] _ ⟨none, 0, rfl, Nat.le_refl _, fun _ _ => rfl, fun h => absurd rfl h⟩ ⟨none, 0, rfl, Nat.le_refl _, fun _ _ => rfl, fun h => absurd rfl h⟩ (by decide)).mono ?_
            rintro e y3 ⟨rfl, hb⟩
            have HC3 := Lib.hid (HC2.out.trans (hb.mono HC2.out.size))
            clear hb
            go_wp2_with fail
            refine (typeOf_is z ty _ (by omega) HTYZ).mono ?_
            rintro e y4 ⟨rfl, hb⟩
            have HC4 := Lib.hid (HC3.out.trans (hb.mono HC3.out.size))
            clear hb
            go_wp2_with fail
            refine (typeOfR_any z _ (by omega)).mono ?_
            rintro e y5 ⟨rfl, rfl⟩
            rw [← HTYZ.out]
            go_wp2_with fail
            go_roundw
            case rel => exact ⟨i + 1, by omega, by go_num, HC4.out⟩
            case measure => simp [intOf]; omega
          | some h =>
            obtain ⟨p1, p2, p3, p4, p5⟩ := Pl.par_some (by rw [HP.out])
            go_wp2_with fail
            refine (parse_some z (by omega) n q h HN2.out _ HGR2.out HP).mono ?_
            rintro e y1 ⟨v1, rfl, hT1', hb⟩
            have HC1 := Lib.hid (HBR2.out.trans (hb.mono HBR2.out.size))
            have HV1 := Lib.hid hT1'
            clear hb hT1'
            have h23 := parseR_par z (by omega) n HN2.out y1
            rw [HP.out] at h23
            go_wp2_with fail
            refine h23.mono ?_
            rintro e y2 ⟨⟨v2, rfl, hT2'⟩, hb⟩
            have HC2 := Lib.hid (HC1.out.trans (hb.mono HC1.out.size))
            have HV1b := Lib.hid (HV1.out.below hb)
            have HV2 := Lib.hid hT2'
            clear hb hT2' h23
            go_wp2_with fail
            refine (same_true _ _ h.flat _ HV1b.out HV2.out (by omega)).mono ?_
            rintro e y3 ⟨rfl, hb⟩
            have HC3 := Lib.hid (HC2.out.trans (hb.mono HC2.out.size))
            clear hb
            go_wp2_with fail
            refine (typeOf_is z ty _ (by omega) HTYZ).mono ?_
            rintro e y4 ⟨rfl, hb⟩
            have HC4 := Lib.hid (HC3.out.trans (hb.mono HC3.out.size))
            clear hb
            go_wp2_with fail
            refine (typeOfR_any z _ (by omega)).mono ?_
            rintro e y5 ⟨rfl, rfl⟩
            rw [← HTYZ.out]
            go_wp2_with fail
            go_roundw
            case rel => exact ⟨i + 1, by omega, by go_num, HC4.out⟩
            case measure => simp [intOf]; omega
        · obtain rfl : i = 6 := by omega
          go_wp2_with fail
          go_ret
          exact ⟨rfl, HB.out.trans ((HB9.out.trans (HBR2.out.mono HB9.out.size)).mono HB.out.size)⟩
end Go.Proofs.YtchoelgkcnnnkaaGreatDoor
