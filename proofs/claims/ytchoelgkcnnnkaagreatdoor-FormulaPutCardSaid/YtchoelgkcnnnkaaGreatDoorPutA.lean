/- WALK: FormulaPut. -/
import Derived.Test.YtchoelgkcnnnkaaGreatDoorTypA
import Derived.Test.YtchoelgkcnnnkaaGreatDoorPutP
set_option linter.all false
namespace Go.Proofs.YtchoelgkcnnnkaaGreatDoor
open Go.RowKit
theorem pairs_take' {w : World} {a : Option Addr} {n c m : Nat} {xs : List (Int × Int)} (h : PairsIn w (.slice a n c) xs) (hm : m ≤ n) : PairsIn w (.slice a m c) (xs.take m) := by
  obtain ⟨a', c', h1, h2, h3, h4⟩ := h
  simp only [Value.slice.injEq] at h1
  obtain ⟨rfl, rfl, rfl⟩ := h1
  refine ⟨_, _, by rw [List.length_take, Nat.min_eq_left hm], by rw [List.length_take]; omega, fun p hp => h3 p (List.mem_of_mem_take hp), fun hne => ?_⟩
  obtain ⟨b', o, h5, h6, h7⟩ := h4 (by intro e; rw [e] at hne; simp at hne)
  refine ⟨b', o, h5, h6, fun i p hp => h7 i p ?_⟩
  rw [List.getElem?_take] at hp
  split at hp
  · exact hp
  · cases hp
theorem Pl.subL_len {N : ByteArray} {g : Fm} (hg : g.flat.length ≤ 60) (ts : List Tm) : (subL N g ts).length ≤ ts.length * 60 := by
  induction ts with
  | nil => simp [subL]
  | cons u r ih =>
    rw [subL_cons, List.length_append, List.length_cons]
    split
    · omega
    · simp; omega
theorem Pl.subL_next {N : ByteArray} {g : Fm} {ts : List Tm} {k : Nat} {u : Tm} (h : ts[k]? = some u) : subL N g (ts.take (k + 1)) = subL N g (ts.take k) ++ (if isN N u = true then g.flat else [u]) := by
  have e : ts.take (k + 1) = ts.take k ++ [u] := by rw [List.take_add_one, h]; rfl
  rw [e, subL_append, subL_cons]
  simp [subL]
theorem Pl.subL_mem {N : ByteArray} {g : Fm} {ts : List Tm} {u : Tm} (h : u ∈ subL N g ts) : u ∈ ts ∨ u ∈ g.flat := by
  unfold subL at h
  obtain ⟨x, hx, h⟩ := List.mem_flatMap.1 h
  split at h
  · exact .inr h
  · rw [List.mem_singleton.1 h]; exact .inl hx
theorem cells_box {w : World} {b : Nat} {x0 x1 x2 : Value} {T : TypeId} (h : w.heap[b]? = some (.cells #[x0, x1, x2] T (0, 0))) : w.cell? ⟨b, 0, none⟩ = some x0 ∧ w.cell? ⟨b, 1, none⟩ = some x1 ∧ w.cell? ⟨b, 2, none⟩ = some x2 := by
  refine ⟨?_, ?_, ?_⟩ <;> (rw [Lib.cell_of_heap h]; rfl)
theorem set_far {w : World} {gb bb o : Nat} {v0 v1 v2 : Value} (h : bb ≠ gb ∨ 3 ≤ o) : (((w.setCell ⟨gb, 0, none⟩ v0).setCell ⟨gb, 1, none⟩ v1).setCell ⟨gb, 2, none⟩ v2).cell? ⟨bb, o, none⟩ = w.cell? ⟨bb, o, none⟩ := by
  have ne : ∀ j, j < 3 → (⟨gb, j, none⟩ : Addr) ≠ ⟨bb, o, none⟩ := fun j hj e => by
    simp only [Addr.mk.injEq] at e
    rcases h with h | h
    · exact h e.1.symm
    · omega
  rw [World.cell?_setCell_other _ _ _ _ (ne 2 (by decide)), World.cell?_setCell_other _ _ _ _ (ne 1 (by decide)), World.cell?_setCell_other _ _ _ _ (ne 0 (by decide))]
theorem row_far {w w' : World} {b off : Nat} {ts : List Tm} (h : RowIn w b off ts) (hc : ∀ o, w'.cell? ⟨b, o, none⟩ = w.cell? ⟨b, o, none⟩) : RowIn w' b off ts := fun i t ht => by
  obtain ⟨a1, a2, a3, a4⟩ := h i t ht
  exact ⟨(hc _).trans a1, (hc _).trans a2, (hc _).trans a3, a4⟩
theorem row_put0 {w w' : World} {B g cap : Nat} {v0 x : Tm} {vt : List Tm} (h : w.ownsRow B 48 3 (.slice (some ⟨g, 0, none⟩) (v0 :: vt).length cap) (v0 :: vt).length (tmCells (v0 :: vt)))
    (h3 : w'.cell? ⟨g, 0, none⟩ = some (.int .i64 x.k) ∧ w'.cell? ⟨g, 1, none⟩ = some (.int .i64 x.n) ∧ w'.cell? ⟨g, 2, none⟩ = some (.string x.s)) (hc : ∀ o, 3 ≤ o → w'.cell? ⟨g, o, none⟩ = w.cell? ⟨g, o, none⟩)
    (hs : ∀ t ∈ v0 :: vt, t.s.size ≤ 3) (hx : x.s.size ≤ 140737488355328) : RowIn w' g 0 (x :: vt) := fun i t ht => by
  cases i with
  | zero => simp at ht; subst ht; exact ⟨by simpa using h3.1, by simpa using h3.2.1, by simpa using h3.2.2, hx⟩
  | succ i =>
    have ht' : (v0 :: vt)[i + 1]? = some t := by simpa using ht
    have hi := (List.getElem?_eq_some_iff.1 ht').1
    obtain ⟨a1, a2, a3⟩ := tmCells_at (v0 :: vt) (i + 1) t ht'
    refine ⟨?_, ?_, ?_, Nat.le_trans (hs t (List.mem_of_getElem? ht')) (by decide)⟩
    · rw [Nat.zero_add, hc _ (by omega), World.ownsRow.cellAt h _ (by omega)]; exact a1
    · rw [Nat.zero_add, hc _ (by omega), World.ownsRow.cellAt h _ (by omega)]; exact a2
    · rw [Nat.zero_add, hc _ (by omega), World.ownsRow.cellAt h _ (by omega)]; exact a3
theorem Pl.valid_parts {f : Fm} (hw : f.wf) (h : validB f.flat = true) : f.depth ≤ 12 ∧ f.flat.length ≤ 60 ∧ f.wf := by
  obtain ⟨hl, g, hg, hd, he⟩ := (validB_iff _).1 h
  obtain rfl := flat_eq (wf_shape f hw) (wf_shape g hg) he
  exact ⟨hd, hl, hw⟩
theorem own_cap {w : World} {B g n cap : Nat} {e : TypeId} {size : Nat} {xs : List Value} (h : w.ownsRow B e size (.slice (some ⟨g, 0, none⟩) n cap) n xs) : n ≤ cap := by
  rcases h.2 with ⟨h1, _⟩ | ⟨g', cap', cur, h1, _, _, hn, _⟩
  · cases h1
  · cases h1; exact hn
theorem valid_small {x : Tm} (h : Pl.validV x = true) : x.s.size ≤ 140737488355328 := Nat.le_trans (small_of_valid h).2 (by decide)
theorem value_at (u : Value) (f : Fm) (ts : List Tm) (hts : ts = f.flat) (vs : List Tm) (ns : List ByteArray) (hns : ns = Pl.namesOf f.flat) (d off c : Nat) (w : World) (hcap : ts.length ≤ c) (hrow : RowIn w d off ts) (hU : TermsIn w u vs) (hwf : f.wf) (hl : ts.length ≤ 60) (hd : f.depth ≤ 12) (hty : Pl.ty f ≠ 0) (hlen : vs.length = ns.length)
    (hok : ∀ (i : Nat) n x, ns[i]? = some n → vs[i]? = some x → Pl.validV x = true ∧ x.k = Pl.typeOf n.data.toList) (R : Option Tm) (HR : Hid (R = Pl.val (Pl.envOf ns vs) f)) :
    Calls Tryz.prog 28 #[.slice (some ⟨d, off, none⟩) ts.length c, u] w (ValPost R w) := by
  subst hts hns
  rw [HR.out]
  exact value_ok u f vs d off c w hcap hrow hU hwf hl hd hty hlen hok
theorem tail_terms {w : World} {b n c : Nat} {x : Tm} {vt : List Tm} (h : RowIn w b 0 (x :: vt)) (hn : vt.length = n) (hc : vt.length + 1 ≤ c) : TermsIn w (.slice (some ⟨b, 3, none⟩) n (c - 1)) vt := by
  have := terms_sub (A := 1) (m := vt.length) h (by simp; omega) (by simpa using hc)
  subst hn
  simpa using this
theorem pick_back {T : Int} (h : T = 1 ∨ T = 2 ∨ T = 3) : 1 + Pl.pickOf (T - 1) 3 = T := by
  rcases h with rfl | rfl | rfl <;> decide
theorem owns_nil {w : World} {B : Nat} {e : TypeId} {v : Value} {xs : List Value} (h : w.ownsRow B e 3 v 0 xs) : ∃ a c, v = .slice a 0 c := by
  rcases h.2 with ⟨h1, _⟩ | ⟨g, cap, cur, h1, _⟩
  · exact ⟨none, 0, h1⟩
  · exact ⟨_, _, h1⟩
theorem val_parts (R : Option Tm) : ∃ (k n : Int) (s : ByteArray) (b : Bool), Hid (∀ w e w', ValPost R w e w' → e = .returned (.tuple #[.agg #[.int .i64 k, .int .i64 n, .string s], .bool b, .int .i64 0]) ∧ Below w.heap.size w w') ∧ Hid (b = true → R = some ⟨k, n, s⟩) := by
  cases R with
  | none => exact ⟨0, 0, ⟨#[]⟩, false, Lib.hid fun w e w' h => h, Lib.hid fun h => by cases h⟩
  | some r => exact ⟨r.k, r.n, r.s, true, Lib.hid fun w e w' h => h, Lib.hid fun _ => rfl⟩
/-- What stands in memory before the formula is put together: f in its row, the values, the names. -/
def PutG (W : World) (N : ByteArray) (s : Value) (wx : World) : Prop :=
  ∃ (g : Fm) (d2 o2 c2 : Nat), s = .slice (some ⟨d2, o2, none⟩) g.flat.length c2 ∧ g.flat.length ≤ c2 ∧ RowIn wx d2 o2 g.flat ∧ d2 < wx.heap.size ∧ Pl.Grown (Pl.typeOf N.data.toList) 6 12 g ∧ Below W.heap.size W wx
set_option maxRecDepth 100000 in
set_option maxHeartbeats 8000000 in
theorem put_all (t : Int) (vx : Value) (xs : List (Int × Int)) (vy : Value) (ys : List Int) (vz : Value) (zs : List (Int × Int)) (w : World) (ht : -9223372036854775808 ≤ t ∧ t ≤ 9223372036854775807)
    (hx : PairsIn w vx xs) (hxl : xs.length ≤ 9223372036854775807) (hy : IntsArg w vy ys) (hyl : ys.length ≤ 9223372036854775807) (hz : PairsIn w vz zs) (hzl : zs.length ≤ 9223372036854775807) (hG : Glob w) :
    Calls Tryz.prog 8 #[.int .i64 t, vx, vy, vz] w fun e w' => e = .returned (.bool true) ∧ Below w.heap.size w w' := by
  have HX := Lib.hid hx
  have HY := Lib.hid hy
  have HZ := Lib.hid hz
  have HG := Lib.hid hG
  have HTB := Lib.hid ht
  have HXL := Lib.hid hxl
  have HYL := Lib.hid hyl
  obtain ⟨a, ca, rfl, _⟩ := hx
  obtain ⟨a2, ca2, rfl, _⟩ := hy
  obtain ⟨a3, ca3, rfl, hza, _⟩ := hz
  clear hG ht hxl hyl
  go_enter Tryz.func8, Tryz.ntmps8
  go_wp2_with fail
  refine (sane_any _ HG.out).mono ?_
  rintro e w1 ⟨rfl, hb1⟩
  have B1 := Lib.hid hb1
  clear hb1
  go_wp2_with fail
  refine (formula_any t _ xs _ HTB.out (HX.out.below B1.out) HXL.out).mono ?_
  rintro e w2 ⟨f, v, rfl, hg, hT, hb2⟩
  have B2 := Lib.hid (B1.out.trans (hb2.mono B1.out.size))
  have HGR := Lib.hid hg
  have hlen := hg.len
  have hdep := hg.depth
  have hl60 : f.flat.length ≤ 60 := by omega
  have hfp : 0 < f.flat.length := Fm.flat_pos f
  have hd12 : f.depth ≤ 12 := by omega
  have HV : Hid (true = Pl.validB f.flat) := Lib.hid (Pl.valid_of hg.wf hd12 hl60).symm
  obtain ⟨d, off, c, rfl, hc, hrow, hdlt⟩ := pairs_terms hT
  have HROW := Lib.hid hrow
  have p3 := Pl.pickOf_range t 3 (by decide)
  have hty : Pl.ty f ≠ 0 := by rw [hg.ty]; omega
  have HTY := Lib.hid hty
  clear hg hT hb2 hlen hdep hrow hty p3
  go_wp2_with fail
  refine (in_any f.flat d off c _ ys _ hc HROW.out hl60 (Fm.flat_ne f) HV (HY.out.below B2.out) HYL.out (names_typed HGR.out.wf)).mono ?_
  rintro e w3 ⟨vv, vs, rfl, hov, hvl, hfit, hb3⟩
  have B3 := Lib.hid (B2.out.trans (hb3.mono B2.out.size))
  have hR3 := HROW.out.below hb3 hdlt
  have HR3 := Lib.hid hR3
  have hd3 : d < w3.heap.size := Nat.lt_of_lt_of_le hdlt hb3.size
  have HOV := Lib.hid hov
  have HFT := Lib.hid hfit
  have hs23 := hb3.size
  clear hov hfit hb3 HROW hR3
  go_wp2_with fail
  refine (names_ok f.flat d off c _ hc HR3.out hl60 (Fm.flat_ne f) HV).mono ?_
  rintro e w4 ⟨vn, rfl, hsa, hb4⟩
  have B4 := Lib.hid (B3.out.trans (hb4.mono B3.out.size))
  have HR4 := Lib.hid (HR3.out.below hb4 hd3)
  have hd4 : d < w4.heap.size := Nat.lt_of_lt_of_le hd3 hb4.size
  have HOV4 := Lib.hid (ownsRow_below HOV.out hb4)
  have hnl := Pl.namesOf_len f.flat
  have hnt := names_typed HGR.out.wf
  obtain ⟨ns, hns⟩ : ∃ ns, ns = Pl.namesOf f.flat := ⟨_, rfl⟩
  rw [← hns] at hvl HFT hsa hnl hnt
  have HNS := Lib.hid hns
  obtain ⟨an, cn, rfl, hcn, hnc⟩ := strs_of_at hsa
  have HNC := Lib.hid hnc
  have hs4 := hb4.size
  clear hb4 HR3 HOV hns hsa hnc
  cases ns with
  | nil =>
    obtain rfl : vs = [] := List.length_eq_zero_iff.1 hvl
    rcases owns_nil HOV4.out with ⟨av, cv, rfl⟩
    go_wp2_with fail
    go_ret
    exact ⟨rfl, B4.out⟩
  | cons N r =>
    obtain ⟨v0, vt, rfl⟩ : ∃ v0 vt, vs = v0 :: vt := by
      cases vs with
      | nil => simp at hvl
      | cons a b => exact ⟨a, b, rfl⟩
    obtain ⟨gb, cv, rfl⟩ := Joins.ownsRow_form HOV4.out (by simp)
    have hvl2 : vt.length = r.length := by simpa using hvl
    have hnl2 : r.length ≤ 59 := by simp at hnl; omega
    have hlc : (((r.length + 1 : Nat) : Int) != ((vt.length + 1 : Nat) : Int)) = false := by rw [hvl2]; simp
    have hr0 : ((r.length : Int) + 1 == 0) = false := by rw [beq_eq_false_iff_ne]; omega
    have HW4 : Hid (∀ (j : Nat) x, (N :: r)[j]? = some x → ∃ gn, an = some ⟨gn, 0, none⟩ ∧ gn < w4.heap.size ∧ w4.cell? ⟨gn, j, none⟩ = some (.string x)) := Lib.hid fun j x hj => by
      obtain ⟨gn, h1, h2, h3⟩ := HNC.out (by simp)
      exact ⟨gn, h1, h2, h3 j x hj⟩
    obtain ⟨gn, rfl, hgn, hN0⟩ := HW4.out 0 N rfl
    obtain ⟨TN, hTN⟩ : ∃ TN, TN = Pl.typeOf N.data.toList := ⟨_, rfl⟩
    have HTN := Lib.hid hTN
    have hT0 : 0 < TN := by rw [hTN]; exact hnt N (by simp)
    have hT3 := Pl.typeOf_range N.data.toList
    rw [← hTN] at hT3
    have hNs : N.size ≤ 3 := Pl.typeOf_len N.data.toList (by rw [← hTN]; exact hT0)
    clear hTN hnt HNC
    by_cases h20 : f.flat.length ≤ 20
    · have h20' : (f.flat.length : Int) ≤ 20 := by omega
      go_upto_region 10 with fail
      go_cut [13] from 57 to 67 (fun s13 wx => PutG w4 N s13 wx)
      case first =>
        obtain ⟨m, hm⟩ : ∃ m : Nat, m = min zs.length 4 := ⟨_, rfl⟩
        have hmm : min (zs.length : Int) 4 = (m : Int) := by omega
        have hm2 : m ≤ zs.length := by omega
        have hm3 : m ≤ 9223372036854775807 := by omega
        have HML := Lib.hid hm
        clear hm
        have hNs' : N.size ≤ 9223372036854775807 := by omega
        have hwr : IntKind.i64.wrap (TN - 1) = TN - 1 := by rw [IntKind.wrap_i64]; omega
        have HZT : Hid (∀ X, Below w4.heap.size w4 X → PairsIn X (.slice a3 m ca3) (zs.take m)) := Lib.hid fun X hb => pairs_take' (HZ.out.below (B4.out.trans (hb.mono B4.out.size))) hm2
        have HTB2 : Hid (-9223372036854775808 ≤ TN - 1 ∧ TN - 1 ≤ 9223372036854775807) := Lib.hid (by omega)
        have HPB : Hid (1 + Pl.pickOf (TN - 1) 3 = TN) := Lib.hid (pick_back (by omega))
        have HMT : Hid ((zs.take m).length ≤ 9223372036854775807) := Lib.hid (by rw [List.length_take]; omega)
        go_region_with (first | (go_at_call 25; refine (typeOf_is N TN _ hNs' HTN).mono ?_; rintro e w5 ⟨rfl, hb5⟩; have HB5 := Lib.hid ((below_drewN' (Below.refl _ w4) 1).trans (hb5.mono (Nat.le_refl _))); clear hb5) | (go_at_call 11; refine (formula_any (TN - 1) _ (zs.take m) _ HTB2.out (HZT.out _ HB5.out) HMT.out).mono ?_; rintro e w6 ⟨g, v6, rfl, hg6, hT6, hb6⟩; have HG6 := Lib.hid hg6; have HT6 := Lib.hid hT6; have HB6 := Lib.hid (HB5.out.trans (hb6.mono HB5.out.size)); clear hg6 hT6 hb6))
        all_goals
          go_wp2_with fail
          go_meet
          case rel =>
            have hg6 := HG6.out
            rw [HPB.out, HTN.out] at hg6
            obtain ⟨d2, o2, c2, h1, h2, h3, h4⟩ := pairs_terms HT6.out
            exact ⟨g, d2, o2, c2, h1, h2, h3, h4, hg6, HB6.out⟩
      case rest =>
      obtain ⟨g, d2, o2, c2, rfl, hc2, hrow2, hd2, hg2, hbx⟩ := hcut
      obtain ⟨W5, hW5⟩ : ∃ W5, W5 = wc := ⟨_, rfl⟩
      rw [← hW5] at hrow2 hd2 hbx ⊢
      have HRG := Lib.hid hrow2
      have HG2 := Lib.hid hg2
      have B5 := Lib.hid (B4.out.trans (hbx.mono B4.out.size))
      have HR5 := Lib.hid (HR4.out.below hbx hd4)
      have hd5 : d < W5.heap.size := Nat.lt_of_lt_of_le hd4 hbx.size
      have HOV5 := Lib.hid (ownsRow_below HOV4.out hbx)
      have hN5 := (hbx.cell (p := ⟨gn, 0, none⟩) hgn).trans hN0
      have hgn5 : gn < W5.heap.size := Nat.lt_of_lt_of_le hgn hbx.size
      have hs5 := hbx.size
      have hlg := hg2.len
      have hdg := hg2.depth
      have hg60 : g.flat.length ≤ 60 := by omega
      have hgd : g.depth ≤ 12 := by omega
      have HVG : Hid (true = Pl.validB g.flat) := Lib.hid (Pl.valid_of hg2.wf hgd hg60).symm
      clear hW5 hrow2 hg2 hbx HR4 HOV4 hlg hdg HW4
      go_wp2_with fail
      refine (names_ok g.flat d2 o2 c2 _ hc2 HRG.out hg60 (Fm.flat_ne g) HVG).mono ?_
      rintro e w6 ⟨vi, rfl, hsi, hb6⟩
      have B6 := Lib.hid (B5.out.trans (hb6.mono B5.out.size))
      have HR6 := Lib.hid (HR5.out.below hb6 hd5)
      have hd6 : d < w6.heap.size := Nat.lt_of_lt_of_le hd5 hb6.size
      have HRG6 := Lib.hid (HRG.out.below hb6 hd2)
      have hdg6 : d2 < w6.heap.size := Nat.lt_of_lt_of_le hd2 hb6.size
      have HOV6 := Lib.hid (ownsRow_below HOV5.out hb6)
      have hN6 := (hb6.cell (p := ⟨gn, 0, none⟩) hgn5).trans hN5
      have hgn6 : gn < w6.heap.size := Nat.lt_of_lt_of_le hgn5 hb6.size
      have hs6 := hb6.size
      obtain ⟨nsg, hnsg⟩ : ∃ nsg, nsg = Pl.namesOf g.flat := ⟨_, rfl⟩
      rw [← hnsg] at hsi
      obtain ⟨ai, ci, rfl, _, _⟩ := strs_of_at hsi
      have HNSG := Lib.hid hnsg
      have hngl : nsg.length ≤ 60 := by rw [hnsg]; exact Nat.le_trans (Pl.namesOf_len g.flat) hg60
      clear hb6 hsi hnsg HRG HR5 HOV5 hN5 hN0
      by_cases hng : 0 < nsg.length
      · have hng' : (0 : Int) < (nsg.length : Int) := by omega
        go_wp2_with fail
        go_ret
        exact ⟨rfl, B6.out⟩
      · have hng' : ¬ (0 : Int) < (nsg.length : Int) := by omega
        obtain rfl : nsg = [] := List.length_eq_zero_iff.1 (by omega)
        have HNN : Hid (Pl.NoNames g.flat) := Lib.hid (Pl.noNames_of HNSG.out.symm)
        have HGT : Hid (Pl.ty g ≠ 0) := Lib.hid (by rw [HG2.out.ty, ← HTN.out]; omega)
        obtain ⟨rg, hrg⟩ : ∃ rg, rg = Pl.val (Pl.envOf [] []) g := ⟨_, rfl⟩
        have HRGV := Lib.hid hrg
        clear hng hrg
        go_wp2_with fail
        refine (value_ok (.slice none 0 0) g [] d2 o2 c2 _ hc2 HRG6.out ⟨none, 0, rfl, Nat.le_refl _, by simp, by simp⟩ HG2.out.wf hg60 hgd HGT.out (by rw [← HNSG.out]; rfl) (fun i n x h1 h2 => by simp at h2)).mono ?_
        rw [← HNSG.out, ← HRGV.out]
        rintro e w7 hpost
        obtain ⟨vk, vn, vb, ib, hp1, hp2⟩ := val_parts rg
        obtain ⟨rfl, hb7⟩ := hp1.out _ _ _ hpost
        have B7 := Lib.hid (B6.out.trans (hb7.mono B6.out.size))
        have HR7 := Lib.hid (HR6.out.below hb7 hd6)
        have hd7 : d < w7.heap.size := Nat.lt_of_lt_of_le hd6 hb7.size
        have HRG7 := Lib.hid (HRG6.out.below hb7 hdg6)
        have hdg7 : d2 < w7.heap.size := Nat.lt_of_lt_of_le hdg6 hb7.size
        have HOV7 := Lib.hid (ownsRow_below HOV6.out hb7)
        have hN7 := (hb7.cell (p := ⟨gn, 0, none⟩) hgn6).trans hN6
        have hgn7 : gn < w7.heap.size := Nat.lt_of_lt_of_le hgn6 hb7.size
        have hs7 := hb7.size
        clear hb7 hpost HR6 HRG6 HOV6 hN6 HGT
        obtain ⟨W, hW⟩ : ∃ W, W = w7.alloc (.cells #[.int .i64 vk, .int .i64 vn, .string vb] 48) := ⟨_, rfl⟩
        have hbW : Below w7.heap.size w7 W := by rw [hW]; exact below1 w7 _
        have hWs : W.heap.size = w7.heap.size + 1 := by rw [hW]; simp
        have HBX : Hid (W.heap[w7.heap.size]? = some (.cells #[.int .i64 vk, .int .i64 vn, .string vb] 48 (0, 0))) := Lib.hid (by rw [hW]; exact (MapKept.heap_alloc w7 _).1)
        have BW := Lib.hid (B7.out.trans (hbW.mono B7.out.size))
        have HRW := Lib.hid (HR7.out.below hbW hd7)
        have HRGW := Lib.hid (HRG7.out.below hbW hdg7)
        have HOVW := Lib.hid (ownsRow_below HOV7.out hbW)
        have hNW := (hbW.cell (p := ⟨gn, 0, none⟩) hgn7).trans hN7
        have hdW : d < W.heap.size := by omega
        have hdgW : d2 < W.heap.size := by omega
        have hgnW : gn < W.heap.size := by omega
        have hlb : w3.heap.size ≤ W.heap.size := by omega
        obtain ⟨i0, hi0, hz0, hz1, hz2⟩ := info_parts info24
        have HBW := Lib.hid hbW
        have HNW := Lib.hid hNW
        clear hN7 HR7 HRG7 HOV7 hbW hNW
        go_wp2_with fail
        rw [← hW]
        have HWS := Lib.hid hWs
        clear hW hWs
        go_loopw [19, 20] (fun so si wr => ∃ k : Nat, k ≤ f.flat.length ∧ si = .int .i64 k ∧ OwnTms wr W.heap.size so (Pl.subL N g (f.flat.take k)) ∧ Below W.heap.size W wr) (fun _ si _ => f.flat.length - (intOf si).toNat)
        case atStart => exact ⟨0, Nat.zero_le _, rfl, World.ownsRow_nil _ _ _ _, Below.refl _ _⟩
        case round =>
          obtain ⟨k, hk, rfl, hown, hbr⟩ := hrel
          have HBR := Lib.hid hbr
          have HOW := Lib.hid hown
          have hsz := hbr.size
          have hn0 := (hbr.cell (p := ⟨gn, 0, none⟩) hgnW).trans HNW.out
          by_cases hkl : k < f.flat.length
          · obtain ⟨u, hu⟩ : ∃ u, f.flat[k]? = some u := ⟨f.flat[k], by simp⟩
            obtain ⟨q0, q1, q2, q3⟩ := (HRW.out.below hbr hdW) k u hu
            have HU := Lib.hid hu
            obtain ⟨uk, un, us⟩ := u
            dsimp only at *
            clear hu hbr hown
            have hdr : d < wr.heap.size := by omega
            go_upto_region 21 with fail
            go_cut [104] from 96 to 104 (fun s wx => s = .bool (Pl.isN N ⟨uk, un, us⟩) ∧ Below wr.heap.size wr wx)
            case first =>
              have four : uk ≠ 4 ∨ (uk = 4 ∧ un ≠ 0) ∨ (uk = 4 ∧ un = 0 ∧ us ≠ N) ∨ (uk = 4 ∧ un = 0 ∧ us = N) := by
                by_cases h1 : uk = 4
                · by_cases h2 : un = 0
                  · by_cases h3 : us = N
                    · exact .inr (.inr (.inr ⟨h1, h2, h3⟩))
                    · exact .inr (.inr (.inl ⟨h1, h2, h3⟩))
                  · exact .inr (.inl ⟨h1, h2⟩)
                · exact .inl h1
              have hbz : Below wr.heap.size wr wr.drew := below_drewN' (Below.refl _ wr) 1
              have HBZ := Lib.hid hbz
              clear hbz
              rcases four with h | ⟨rfl, h⟩ | ⟨rfl, rfl, h⟩ | ⟨rfl, rfl, rfl⟩
              · have e1 : (uk == 4) = false := by simpa using h
                have HE : Hid (Pl.isN N ⟨uk, un, us⟩ = false) := Lib.hid (by simp [Pl.isN, h])
                clear h
                go_region_with (first | (go_at_call 33; refine (name_is N _).mono ?_; rintro e w8 ⟨rfl, hb8⟩; have HB8 := Lib.hid (HBZ.out.trans hb8); clear hb8; have y0 := (HB8.out.cell (p := ⟨d, off + k * 3, none⟩) hdr).trans q0; have y1 := (HB8.out.cell (p := ⟨d, off + k * 3 + 1, none⟩) hdr).trans q1; have y2 := (HB8.out.cell (p := ⟨d, off + k * 3 + 2, none⟩) hdr).trans q2))
                all_goals
                  go_wp2_with fail
                  go_meet
                  case rel => exact ⟨by rw [HE.out], HB8.out⟩
              · have e1 : (un == 0) = false := by simpa using h
                have HE : Hid (Pl.isN N ⟨4, un, us⟩ = false) := Lib.hid (by simp [Pl.isN, h])
                clear h
                go_region_with (first | (go_at_call 33; refine (name_is N _).mono ?_; rintro e w8 ⟨rfl, hb8⟩; have HB8 := Lib.hid (HBZ.out.trans hb8); clear hb8; have y0 := (HB8.out.cell (p := ⟨d, off + k * 3, none⟩) hdr).trans q0; have y1 := (HB8.out.cell (p := ⟨d, off + k * 3 + 1, none⟩) hdr).trans q1; have y2 := (HB8.out.cell (p := ⟨d, off + k * 3 + 2, none⟩) hdr).trans q2))
                all_goals
                  go_wp2_with fail
                  go_meet
                  case rel => exact ⟨by rw [HE.out], HB8.out⟩
              · have e1 : (us.toList == N.toList) = false := Pl.toList_ne h
                have HE : Hid (Pl.isN N ⟨4, 0, us⟩ = false) := Lib.hid (by simp [Pl.isN, h])
                clear h
                go_region_with (first | (go_at_call 33; refine (name_is N _).mono ?_; rintro e w8 ⟨rfl, hb8⟩; have HB8 := Lib.hid (HBZ.out.trans hb8); clear hb8; have y0 := (HB8.out.cell (p := ⟨d, off + k * 3, none⟩) hdr).trans q0; have y1 := (HB8.out.cell (p := ⟨d, off + k * 3 + 1, none⟩) hdr).trans q1; have y2 := (HB8.out.cell (p := ⟨d, off + k * 3 + 2, none⟩) hdr).trans q2))
                all_goals
                  go_wp2_with fail
                  go_meet
                  case rel => exact ⟨by rw [HE.out], HB8.out⟩
              · have HE : Hid (Pl.isN us ⟨4, 0, us⟩ = true) := Lib.hid (by simp [Pl.isN])
                go_region_with (first | (go_at_call 33; refine (name_is us _).mono ?_; rintro e w8 ⟨rfl, hb8⟩; have HB8 := Lib.hid (HBZ.out.trans hb8); clear hb8; have y0 := (HB8.out.cell (p := ⟨d, off + k * 3, none⟩) hdr).trans q0; have y1 := (HB8.out.cell (p := ⟨d, off + k * 3 + 1, none⟩) hdr).trans q1; have y2 := (HB8.out.cell (p := ⟨d, off + k * 3 + 2, none⟩) hdr).trans q2))
                all_goals
                  go_wp2_with fail
                  go_meet
                  case rel => exact ⟨by rw [HE.out], HB8.out⟩
            case rest =>
            obtain ⟨rfl, hbw⟩ := hcut
            obtain ⟨W2, hW2⟩ : ∃ W2, W2 = wc := ⟨_, rfl⟩
            rw [← hW2] at hbw ⊢
            have HOW2 := Lib.hid (ownsRow_below HOW.out hbw)
            have HB2 := Lib.hid (HBR.out.trans (hbw.mono hsz))
            have y0 := (hbw.cell (p := ⟨d, off + k * 3, none⟩) hdr).trans q0
            have y1 := (hbw.cell (p := ⟨d, off + k * 3 + 1, none⟩) hdr).trans q1
            have y2 := (hbw.cell (p := ⟨d, off + k * 3 + 2, none⟩) hdr).trans q2
            have hsz2 := HB2.out.size
            have hll := Pl.subL_len (N := N) hg60 (f.flat.take k)
            rw [List.length_take] at hll
            have hl12 : (Pl.subL N g (f.flat.take k)).length ≤ 1200 := by have h1 : min k f.flat.length ≤ 20 := by omega
                                                                          have h2 := Nat.mul_le_mul_right 60 h1
                                                                          omega
            have HSN := Lib.hid (Pl.subL_next (N := N) (g := g) HU.out)
            have HRG2 := Lib.hid (HRGW.out.below HB2.out hdgW)
            obtain ⟨q, hq⟩ : ∃ q, q = Pl.isN N ⟨uk, un, us⟩ := ⟨_, rfl⟩
            rw [← hq] at HSN ⊢
            clear hW2 hbw hll q0 q1 q2 hq hn0
            cases q with
            | true =>
              have HRC := Lib.hid (show ∀ j u, (tmCells g.flat)[j]? = some u → W2.cell? ((⟨d2, o2, none⟩ : Addr).add j) = some u from fun j u hj => by rw [add_plain]; exact row_cells g.flat o2 HRG2.out j u hj)
              go_wp2_with (at_builtin; go_loud (refine wpList_append_own _ rfl _ _ 25 rfl W.heap.size 24 i0 (.agg #[.int .i64 0, .int .i64 0, .string ByteArray.empty]) 3 32 Tryz.underlying25 hi0 hz0 hz1 hz2 rfl (by decide) _ _ _ rfl HOW2.out ⟨d2, o2, none⟩ g.flat.length c2 (tmCells g.flat) rfl (tmCells_size3 _) HRC.out (tmCells_one _) (by simp [maxLen]; omega) (by omega) hsz2 ?_))
              intro v' w9 hown9 hgrow _
              have HOW9 : Hid (OwnTms w9 W.heap.size v' (Pl.subL N g (f.flat.take (k + 1)))) := by
                refine Lib.hid ?_
                first | rw [HSN.out, if_pos rfl] | rw [HSN.out, if_pos trivial]
                unfold OwnTms
                rw [tmCells_append, List.length_append]
                exact hown9
              have HB9 := Lib.hid (HB2.out.grown hgrow hsz2 fun j hj => (World.ownsRow.lt HOW2.out j hj).1)
              clear hgrow hown9
              go_wp2_with fail
              go_roundw
              case rel => exact ⟨k + 1, by omega, by go_num, HOW9.out, HB9.out⟩
              case measure => simp [intOf]; omega
            | false =>
              go_wp2_with (at_builtin; go_loud (refine wpList_append_own _ rfl _ _ 25 rfl W.heap.size 24 i0 (.agg #[.int .i64 0, .int .i64 0, .string ByteArray.empty]) 3 32 Tryz.underlying25 hi0 hz0 hz1 hz2 rfl (by decide) _ _ _ rfl (World.ownsRow.alloc HOW2.out _) ⟨W2.heap.size, 0, none⟩ 1 1 [.int .i64 uk, .int .i64 un, .string us] rfl rfl ?c1 ?c2 ?c3 ?c4 ?c5 ?_))
              case c1 =>
                intro j u hj
                match j, hj with
                | 0, hj => simp at hj; subst hj; simp [Addr.add, go_sem]
                | 1, hj => simp at hj; subst hj; simp [Addr.add, go_sem]
                | 2, hj => simp at hj; subst hj; simp [Addr.add, go_sem]
              case c2 => intro u hu; simp at hu; rcases hu with rfl | rfl | rfl <;> rfl
              case c3 => unfold maxLen; omega
              case c4 => omega
              case c5 => simp; omega
              intro v' w9 hown9 hgrow _
              have HOW9 : Hid (OwnTms w9 W.heap.size v' (Pl.subL N g (f.flat.take (k + 1)))) := by
                refine Lib.hid ?_
                first | rw [HSN.out, if_neg (by decide)] | rw [HSN.out, if_neg id]
                unfold OwnTms
                rw [tmCells_append, List.length_append]
                exact hown9
              have HB9 := Lib.hid ((HB2.out.alloc hsz2 _).grown hgrow (by simp; omega) fun j hj => (World.ownsRow.lt HOW2.out j hj).1)
              clear hgrow hown9
              go_wp2_with fail
              go_roundw
              case rel => exact ⟨k + 1, by omega, by go_num, HOW9.out, HB9.out⟩
              case measure => simp [intOf]; omega
          · obtain rfl : k = f.flat.length := by omega
            rw [List.take_length] at HOW
            have HWL : Hid (Pl.subL N g f.flat = (Pl.subF N g f).flat) := Lib.hid (Pl.sub_flat N g f (Pl.wf_shape f HGR.out.wf)).symm
            have hsm : ∀ u ∈ Pl.subL N g f.flat, u.s.size ≤ 140737488355328 := fun u hu => by
              rcases Pl.subL_mem hu with h | h
              · exact Nat.le_trans (HGR.out.small u h) (by decide)
              · exact Nat.le_trans (HG2.out.small u h) (by decide)
            obtain ⟨dw, ow, cw, rfl, hcw, hroww, hdw⟩ := pairs_terms (f := Pl.subF N g f) (by rw [← HWL.out]; exact own_terms HOW.out hsm)
            have hdwb : W.heap.size ≤ dw := (World.ownsRow.lt HOW.out dw rfl).1
            have HRO := Lib.hid hroww
            have HWF : Hid ((Pl.subF N g f).wf) := Lib.hid (Pl.sub_wf N HG2.out.wf f HGR.out.wf)
            obtain ⟨q, hq⟩ : ∃ q, q = Pl.validB (Pl.subF N g f).flat := ⟨_, rfl⟩
            have HQ := Lib.hid hq
            have hwl := Pl.subL_len (N := N) hg60 f.flat
            rw [HWL.out] at hwl
            have HTW : Hid (TermsIn wr (.slice (some ⟨dw, ow, none⟩) (Pl.subF N g f).flat.length cw) (Pl.subF N g f).flat) := Lib.hid ⟨_, _, rfl, hcw, by rintro p ⟨⟩; rfl, fun _ => ⟨_, _, rfl, hroww⟩⟩
            obtain ⟨wl, hwle⟩ : ∃ wl, wl = (Pl.subF N g f).flat := ⟨_, rfl⟩
            rw [← hwle] at hwl hcw HRO HQ HTW ⊢
            have HWE := Lib.hid hwle
            clear hsm hroww hq hwle hown hbr hn0
            go_wp2_with fail
            refine (valid_any _ wl q _ HTW.out (by omega) HQ).mono ?_
            rintro e w10 ⟨rfl, hb10⟩
            have HB10 := Lib.hid (HBR.out.trans (hb10.mono hsz))
            have HR10 := Lib.hid (HRO.out.below hb10 hdw)
            have hdw10 : dw < w10.heap.size := Nat.lt_of_lt_of_le hdw hb10.size
            have hs10 := hb10.size
            clear hb10 HTW
            have B10 := Lib.hid (BW.out.trans (HB10.out.mono BW.out.size))
            cases q with
            | false =>
              go_wp2_with fail
              go_ret
              exact ⟨rfl, B10.out⟩
            | true =>
              cases ib with
              | false =>
                go_wp2_with fail
                go_ret
                exact ⟨rfl, B10.out⟩
              | true =>
                obtain ⟨x0, x1, x2⟩ := cells_box ((HB10.out.block w7.heap.size (by have := HWS.out; omega)).trans HBX.out)
                have HO10 := Lib.hid (ownsRow_below HOVW.out HB10.out)
                obtain ⟨hgb0, hgb1⟩ := World.ownsRow.lt HOVW.out gb rfl
                have o0 : w10.cell? ⟨gb, 0, none⟩ = some (.int .i64 v0.k) := World.ownsRow.cellAt HO10.out 0 (by simp)
                have o1 : w10.cell? ⟨gb, 1, none⟩ = some (.int .i64 v0.n) := World.ownsRow.cellAt HO10.out 1 (by simp; omega)
                have o2 : w10.cell? ⟨gb, 2, none⟩ = some (.string v0.s) := World.ownsRow.cellAt HO10.out 2 (by simp; omega)
                have f0 : w10.frozen? ⟨gb, 0, none⟩ = false := World.ownsRow.frozenAt HO10.out 0
                have f1 : w10.frozen? ⟨gb, 1, none⟩ = false := World.ownsRow.frozenAt HO10.out 1
                have f2 : w10.frozen? ⟨gb, 2, none⟩ = false := World.ownsRow.frozenAt HO10.out 2
                have HS3 := Lib.hid (set3 o0 o1 o2 (.int .i64 vk) (.int .i64 vn) (.string vb))
                obtain ⟨hpd, hpl, hpw⟩ := Pl.valid_parts HWF.out (by rw [← HWE.out]; exact HQ.out.symm)
                rw [← HWE.out] at hpl
                have HPD := Lib.hid hpd
                have HGV := Lib.hid (hp2.out rfl)
                clear hpd hpw
                go_wp2_with fail
                obtain ⟨W11, hW11⟩ : ∃ W11, W11 = ((w10.setCell ⟨gb, 0, none⟩ (.int .i64 vk)).setCell ⟨gb, 1, none⟩ (.int .i64 vn)).setCell ⟨gb, 2, none⟩ (.string vb) := ⟨_, rfl⟩
                have HS3' := HS3.out
                rw [← hW11] at HS3' ⊢
                have HCF : Hid (∀ bb o, (bb ≠ gb ∨ 3 ≤ o) → W11.cell? ⟨bb, o, none⟩ = w10.cell? ⟨bb, o, none⟩) := Lib.hid fun bb o h => by rw [hW11]; exact set_far h
                have B11 := Lib.hid (show Below w.heap.size w W11 by rw [hW11]; exact ((B10.out.setCell (p := ⟨gb, 0, none⟩) (Nat.le_trans B2.out.size hgb0) _).setCell (p := ⟨gb, 1, none⟩) (Nat.le_trans B2.out.size hgb0) _).setCell (p := ⟨gb, 2, none⟩) (Nat.le_trans B2.out.size hgb0) _)
                have hW11s : W11.heap.size = w10.heap.size := by rw [hW11]; simp [World.setCell]
                have HRF11 : Hid (RowIn W11 d off f.flat) := Lib.hid (row_far ((HRW.out.below HB10.out hdW)) (fun o => HCF.out d o (.inl (by omega))))
                have HRW11 : Hid (RowIn W11 dw ow wl) := Lib.hid (row_far HR10.out (fun o => HCF.out dw o (.inl (by omega))))
                have HGX : Hid (vk = Pl.typeOf N.data.toList ∧ Pl.validV ⟨vk, vn, vb⟩ = true) := by
                  have hv : Pl.val (Pl.envOf [] []) g = some ⟨vk, vn, vb⟩ := by rw [← HRGV.out]; exact HGV.out
                  have h1 := Pl.val_type g _ HG2.out.wf (fun u hu h4 => absurd h4 (HNN.out u hu)) (by rw [HG2.out.ty, ← HTN.out]; omega) hv
                  have h2 := Pl.val_valid g _ HG2.out.wf (fun u hu h4 => absurd h4 (HNN.out u hu)) hv
                  exact Lib.hid ⟨by rw [HG2.out.ty] at h1; exact h1, h2⟩
                have HRV11 : Hid (RowIn W11 gb 0 (⟨vk, vn, vb⟩ :: vt)) := Lib.hid (row_put0 HO10.out HS3' (fun o h => HCF.out gb o (.inr h)) (fits_all (by simpa using hvl2) HFT.out) (valid_small HGX.out.2))
                have hcap := own_cap HO10.out
                simp only [List.length_cons] at hcap
                clear HS3 HS3' o0 o1 o2 f0 f1 f2 hW11
                obtain ⟨R, hR⟩ : ∃ R, R = Pl.val (Pl.envOf (N :: r) (⟨vk, vn, vb⟩ :: vt)) f := ⟨_, rfl⟩
                have HRR := Lib.hid hR
                have HRR2 : Hid (R = Pl.val (Pl.envOf r vt) (Pl.subF N g f)) := Lib.hid (by rw [hR]; exact (Pl.put_law HNN.out HGR.out.wf HNS.out.symm (by rw [← HRGV.out]; exact HGV.out)).symm)
                have HNW : Hid (r = Pl.namesOf (Pl.subF N g f).flat) := Lib.hid (Pl.sub_names HNN.out HGR.out.wf HNS.out.symm).symm
                obtain ⟨k2, n2, s2, b2, hv1, _⟩ := val_parts R
                have HU1 : Hid (TermsIn W11 (.slice (some ⟨gb, 0, none⟩) (r.length + 1) cv) (⟨vk, vn, vb⟩ :: vt)) := Lib.hid ⟨_, _, by rw [List.length_cons, hvl2], hcap, by rintro p ⟨⟩; rfl, fun _ => ⟨gb, 0, rfl, HRV11.out⟩⟩
                have HOK1 : Hid (∀ (i : Nat) n x, (N :: r)[i]? = some n → (⟨vk, vn, vb⟩ :: vt)[i]? = some x → Pl.validV x = true ∧ x.k = Pl.typeOf n.data.toList) := by
                  refine Lib.hid fun i n x h1 h2 => ?_
                  cases i with
                  | zero => simp at h1 h2; subst h1 h2; exact ⟨HGX.out.2, HGX.out.1⟩
                  | succ i => have := HFT.out (i + 1) n x h1 (by simpa using h2); exact ⟨this.1, this.2.1⟩
                have HOK2 : Hid (∀ (i : Nat) n x, r[i]? = some n → vt[i]? = some x → Pl.validV x = true ∧ x.k = Pl.typeOf n.data.toList) := Lib.hid fun i n x h1 h2 => by have := HFT.out (i + 1) n x (by simpa using h1) (by simpa using h2); exact ⟨this.1, this.2.1⟩
                clear hR
                refine (value_at _ f f.flat rfl (⟨vk, vn, vb⟩ :: vt) (N :: r) HNS.out d off c _ hc HRF11.out HU1.out HGR.out.wf hl60 hd12 HTY.out (by simpa using hvl2) HOK1.out R HRR).mono ?_
                rintro e w12 hpost
                obtain ⟨rfl, hb12⟩ := hv1.out _ _ _ hpost
                have B12 := Lib.hid (B11.out.trans (hb12.mono B11.out.size))
                have HRW12 := Lib.hid (HRW11.out.below hb12 (by omega))
                have hdw12 : dw < w12.heap.size := by have := hb12.size; omega
                have HRV12 := Lib.hid (HRV11.out.below hb12 (by omega))
                have hgb12 : gb < w12.heap.size := by have := hb12.size; omega
                have HTY2 : Hid (Pl.ty (Pl.subF N g f) ≠ 0) := Lib.hid (by rw [Pl.sub_ty N HG2.out.ty f]; exact HTY.out)
                have hcv : cv = 1 ∨ cv ≠ 1 := by omega
                clear hb12 hpost
                rcases hcv with rfl | hcv
                · have HU2 : Hid (TermsIn (w12.alloc (.cells #[.int .i64 k2, .int .i64 n2, .string s2] 48)) (.slice (some ⟨gb, 0, none⟩) r.length 0) vt) := Lib.hid ⟨_, _, by rw [hvl2], by omega, by rintro p ⟨⟩; rfl, fun hne => absurd (List.length_eq_zero_iff.1 (by omega)) hne⟩
                  go_wp2_with fail
                  refine (value_at _ (Pl.subF N g f) wl HWE.out vt r HNW.out dw ow cw _ hcw (HRW12.out.below (below1 w12 _) hdw12) HU2.out HWF.out hpl HPD.out HTY2.out hvl2 HOK2.out R HRR2).mono ?_
                  rintro e w14 hpost
                  obtain ⟨rfl, hb14⟩ := hv1.out _ _ _ hpost
                  have B14 := Lib.hid ((bel_alloc B12.out _).trans (hb14.mono (by simp; have := B12.out.size; omega)))
                  obtain ⟨z0, z1, z2⟩ := cells_box ((hb14.block w12.heap.size (by simp)).trans (MapKept.heap_alloc w12 _).1)
                  have hs14 : w12.heap.size < w14.heap.size := by have := hb14.size; simp at this; omega
                  clear hb14 hpost
                  go_wp2_with fail
                  go_ret
                  exact ⟨rfl, bel_alloc B14.out _⟩
                · have HU2 : Hid (TermsIn (w12.alloc (.cells #[.int .i64 k2, .int .i64 n2, .string s2] 48)) (.slice (some ⟨gb, 3, none⟩) r.length (cv - 1)) vt) := Lib.hid (tail_terms (HRV12.out.below (below1 w12 _) hgb12) hvl2 hcap)
                  go_wp2_with fail
                  refine (value_at _ (Pl.subF N g f) wl HWE.out vt r HNW.out dw ow cw _ hcw (HRW12.out.below (below1 w12 _) hdw12) HU2.out HWF.out hpl HPD.out HTY2.out hvl2 HOK2.out R HRR2).mono ?_
                  rintro e w14 hpost
                  obtain ⟨rfl, hb14⟩ := hv1.out _ _ _ hpost
                  have B14 := Lib.hid ((bel_alloc B12.out _).trans (hb14.mono (by simp; have := B12.out.size; omega)))
                  obtain ⟨z0, z1, z2⟩ := cells_box ((hb14.block w12.heap.size (by simp)).trans (MapKept.heap_alloc w12 _).1)
                  have hs14 : w12.heap.size < w14.heap.size := by have := hb14.size; simp at this; omega
                  clear hb14 hpost
                  go_wp2_with fail
                  go_ret
                  exact ⟨rfl, bel_alloc B14.out _⟩
    · have h20' : ¬ (f.flat.length : Int) ≤ 20 := by omega
      go_wp2_with fail
      go_ret
      exact ⟨rfl, B4.out⟩
end Go.Proofs.YtchoelgkcnnnkaaGreatDoor
