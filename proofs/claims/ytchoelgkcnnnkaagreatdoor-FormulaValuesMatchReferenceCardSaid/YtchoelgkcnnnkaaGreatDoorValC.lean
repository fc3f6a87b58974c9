/- WALK: formula.Value's closure that finds a value, operators of two. Printed by genvb.py. -/
import Derived.Test.YtchoelgkcnnnkaaGreatDoorValB
set_option linter.all false
namespace Go.Proofs.YtchoelgkcnnnkaaGreatDoor
open Go.RowKit
set_option maxRecDepth 100000 in
set_option maxHeartbeats 2000000 in
theorem fd_bi8 (q mb sb fb ob m o d off c : Nat) (ts : List Tm) (es : Array MapEntry) (clk : Nat) (env : ByteArray → Tm) (hl : ts.length ≤ 60) (t : Tm) (a b : Fm) (ht : t.k = 8) (ia : Fd q mb sb fb ob m o d off c ts es clk env a) (ib : Fd q mb sb fb ob m o d off c ts es clk env b) : Fd q mb sb fb ob m o d off c ts es clk env (.bi t a b) := by
  intro pre post i w hwf hts hi he hem h
  have hget := mid_get (t := t) (post := a.flat ++ (b.flat ++ post)) (by simpa [Fm.flat] using hts)
  have hlt : pre.length < ts.length := (List.getElem?_eq_some_iff.1 hget).1
  have hne : ts ≠ [] := by intro e; rw [e] at hlt; simp at hlt
  obtain ⟨m0, m1, m2, m3⟩ := h.ss.row pre.length t hget
  have uu := And.intro hl hl
  clear uu
  have hv := h.ss.hv
  have hcap := h.ss.cap
  have hdl := lt_of_cell m0
  have hql := lt_of_cell hv
  have H := Lib.hid h
  have HT := Lib.hid hts
  have HW := Lib.hid hwf
  have HE := Lib.hid he
  have HEM := Lib.hid hem
  have HN := Lib.hid hne
  obtain ⟨k, tn, s⟩ := t
  simp only at *
  subst ht hi
  have hff := h.hf
  have hfl := lt_of_cell hff
  have hol := lt_of_cell h.ho
  have hsl := lt_of_cell h.ss.hs
  clear h hts hwf he hem m3 hget hne
  go_enter Tryz.func65, Tryz.ntmps65
  go_wp2_with fail
  have hb0 := below2 w (.cells #[.int .i64 0, .int .i64 0, .string ⟨#[]⟩] 48) (.cells #[.int .i64 8, .int .i64 tn, .string s] 24)
  have h0 := H.out.below hb0 HN.out
  have br : Box3 ((w.alloc (.cells #[.int .i64 0, .int .i64 0, .string ⟨#[]⟩] 48)).alloc (.cells #[.int .i64 8, .int .i64 tn, .string s] 24)) w.heap.size (.int .i64 0) (.int .i64 0) (.string ⟨#[]⟩) 48 := (Box3.new w _ _ _ _).keep (below1 _ _)
  have bt : Box3 ((w.alloc (.cells #[.int .i64 0, .int .i64 0, .string ⟨#[]⟩] 48)).alloc (.cells #[.int .i64 8, .int .i64 tn, .string s] 24)) (w.heap.size + 1) (.int .i64 8) (.int .i64 tn) (.string s) 24 := by
    have := Box3.new (w.alloc (.cells #[.int .i64 0, .int .i64 0, .string ⟨#[]⟩] 48)) (.int .i64 8) (.int .i64 tn) (.string s) 24
    simpa using this
  generalize ((w.alloc (.cells #[.int .i64 0, .int .i64 0, .string ⟨#[]⟩] 48)).alloc (.cells #[.int .i64 8, .int .i64 tn, .string s] 24)) = w0 at hb0 h0 br bt ⊢
  refine (ia (pre ++ [⟨8, tn, s⟩]) (b.flat ++ post) _ _ HW.out.2.2.1 (by rw [HT.out]; simp [Fm.flat]) (by simp <;> omega) (fun t ht => HE.out t (by simp [Fm.flat, ht])) (fun t ht => HEM.out t (by simp [Fm.flat, ht])) h0).mono ?_
  rintro e w1 ⟨hr, hb1⟩
  have h1 := h0.below hb1 HN.out
  have br1 := br.keep hb1
  have bt1 := bt.keep hb1
  have HB1 := Lib.hid (hb0.trans (hb1.mono hb0.size))
  obtain ⟨va, hva⟩ : ∃ va, va = Pl.val env a := ⟨_, rfl⟩
  rw [← hva] at hr
  have HVa := Lib.hid hva
  clear hva
  cases va with
  | none =>
    obtain rfl : e = .panicked noneP := hr
    go_wp2
    refine ⟨rfl, ?_⟩
    have hval : Pl.val env (.bi ⟨8, tn, s⟩ a b) = none := by simp only [Pl.val, ← HVa.out, Option.bind_none]
    rw [hval]
    exact ⟨rfl, HB1.out⟩
  | some x =>
    have HX := Lib.hid (small_of_valid (Pl.val_valid a x HW.out.2.2.1 (fun t ht => HE.out t (by simp [Fm.flat, ht])) HVa.out.symm))
    obtain rfl : e = .returned x.agg := hr
    obtain ⟨xk, xn, xs⟩ := x
    unfold Tm.agg
    have hb2 := below2 w1 (.cells #[.int .i64 xk, .int .i64 xn, .string xs] 48) (.cells #[.int .i64 0, .int .i64 0, .string ⟨#[]⟩] 48)
    have hh2 := h1.below hb2 HN.out
    have br2' := br1.keep hb2
    have bt2 := bt1.keep hb2
    have HB2' := Lib.hid (HB1.out.trans (hb2.mono HB1.out.size))
    have bx2 : Box3 ((w1.alloc (.cells #[.int .i64 xk, .int .i64 xn, .string xs] 48)).alloc (.cells #[.int .i64 0, .int .i64 0, .string ⟨#[]⟩] 48)) w1.heap.size (.int .i64 xk) (.int .i64 xn) (.string xs) 48 := (Box3.new w1 _ _ _ _).keep (below1 _ _)
    have bz2 : Box3 ((w1.alloc (.cells #[.int .i64 xk, .int .i64 xn, .string xs] 48)).alloc (.cells #[.int .i64 0, .int .i64 0, .string ⟨#[]⟩] 48)) (w1.heap.size + 1) (.int .i64 0) (.int .i64 0) (.string ⟨#[]⟩) 48 := by
      have := Box3.new (w1.alloc (.cells #[.int .i64 xk, .int .i64 xn, .string xs] 48)) (.int .i64 0) (.int .i64 0) (.string ⟨#[]⟩) 48
      simpa using this
    clear hb2
    obtain ⟨t0, t1, t2, tf0, tf1, tf2⟩ := bt1.cells
    have tl := bt1.lt
    have rl := br1.lt
    go_wp2_with (go_at_call 49; refine (operands_is 8 2 _ (Lib.hid rfl)).mono ?_; rintro e w' ⟨rfl, rfl⟩)
    clear t0 t1 t2 tf0 tf1 tf2 tl rl
    generalize ((w1.alloc (.cells #[.int .i64 xk, .int .i64 xn, .string xs] 48)).alloc (.cells #[.int .i64 0, .int .i64 0, .string ⟨#[]⟩] 48)) = w2 at hh2 br2' bt2 HB2' bx2 bz2 ⊢
    have hff2 := hh2.hf
    have hss2 := hh2.ss.hs
    have HS := Lib.hid (sk_quiet q sb d off c ts hl a (pre ++ [⟨8, tn, s⟩]) (b.flat ++ post) ((pre.length : Int) + 1) ((pre.length : Int) + 1 + a.flat.length) w2.drew HW.out.2.2.1 (by rw [HT.out]; simp [Fm.flat]) (by simp) rfl (hh2.below (below_drewN' (Below.refl _ _) 1) HN.out).ss)
    have hwr : IntKind.i64.wrap ((pre.length : Int) + 1) = (pre.length : Int) + 1 := IntWalk.i64_in _ (by omega)
    go_still_tail 5, (by kernel_rfl)
    still_call HS.out
    clear hwr
    refine wpStill_nil ?_
    change wpList _ _ _ _ _ w2.drew
    go_wp2_with fail
    have h2d := hh2.below (below_drewN' (Below.refl w2.heap.size w2) 1) HN.out
    refine (ib (pre ++ [⟨8, tn, s⟩] ++ a.flat) post _ _ HW.out.2.2.2 (by rw [HT.out]; simp [Fm.flat]) (by simp <;> omega) (fun t ht => HE.out t (by simp [Fm.flat, ht])) (fun t ht => HEM.out t (by simp [Fm.flat, ht])) h2d).mono ?_
    rintro e w3 ⟨hr3, hb3⟩
    have hh3 := h2d.below hb3 HN.out
    have br3' := (show Box3 w2.drew w.heap.size (.int .i64 0) (.int .i64 0) (.string ⟨#[]⟩) 48 from br2').keep hb3
    have bt3 := (show Box3 w2.drew (w.heap.size + 1) (.int .i64 8) (.int .i64 tn) (.string s) 24 from bt2).keep hb3
    have bx3 := (show Box3 w2.drew w1.heap.size (.int .i64 xk) (.int .i64 xn) (.string xs) 48 from bx2).keep hb3
    have bz3 := (show Box3 w2.drew (w1.heap.size + 1) (.int .i64 0) (.int .i64 0) (.string ⟨#[]⟩) 48 from bz2).keep hb3
    have HB3' := Lib.hid (HB2'.out.trans ((below_drewN' (Below.refl w.heap.size w2) 1).trans (hb3.mono HB2'.out.size)))
    clear hb3 hh2 br2' bt2 bx2 bz2 h2d hff2 hss2
    obtain ⟨vb, hvb⟩ : ∃ va, va = Pl.val env b := ⟨_, rfl⟩
    rw [← hvb] at hr3
    have HVb := Lib.hid hvb
    clear hvb
    cases vb with
    | none =>
      obtain rfl : e = .panicked noneP := hr3
      go_wp2
      refine ⟨rfl, ?_⟩
      have hval : Pl.val env (.bi ⟨8, tn, s⟩ a b) = none := by simp only [Pl.val, ← HVa.out, ← HVb.out, Option.bind_none, Option.bind_some]
      rw [hval]
      exact ⟨rfl, HB3'.out⟩
    | some y =>
      have HY := Lib.hid (small_of_valid (Pl.val_valid b y HW.out.2.2.2 (fun t ht => HE.out t (by simp [Fm.flat, ht])) HVb.out.symm))
      obtain rfl : e = .returned y.agg := hr3
      obtain ⟨yk, yn, ys⟩ := y
      unfold Tm.agg
      have hw1 := HB1.out.size
      have HB2 := Lib.hid (((HB3'.out.setCell (p := ⟨w1.heap.size + 1, 0, none⟩) (by simp <;> omega) (.int .i64 yk)).setCell (p := ⟨w1.heap.size + 1, 1, none⟩) (by simp <;> omega) (.int .i64 yn)).setCell (p := ⟨w1.heap.size + 1, 2, none⟩) (by simp <;> omega) (.string ys))
      have h2 := H.out.below HB2.out HN.out
      have hbn : w.heap.size ≠ w1.heap.size + 1 := by omega
      have br2 : Box3 (((w3.setCell ⟨w1.heap.size + 1, 0, none⟩ (.int .i64 yk)).setCell ⟨w1.heap.size + 1, 1, none⟩ (.int .i64 yn)).setCell ⟨w1.heap.size + 1, 2, none⟩ (.string ys)) w.heap.size (.int .i64 0) (.int .i64 0) (.string ⟨#[]⟩) 48 := by
        unfold Box3
        rw [Below.heap_setCell _ _ _ _ (fun e => hbn e), Below.heap_setCell _ _ _ _ (fun e => hbn e), Below.heap_setCell _ _ _ _ (fun e => hbn e)]
        exact br3'
      have rl : w.heap.size < w1.heap.size := br1.lt
      have ho3 := hh3.ho
      have hobn : ob ≠ w1.heap.size + 1 := by omega
      clear hw1 hbn
      obtain ⟨t0, t1, t2, tf0, tf1, tf2⟩ := bt3.cells
      have tl := bt3.lt
      obtain ⟨p0, p1, p2, pf0, pf1, pf2⟩ := bx3.cells
      have pl := bx3.lt
      obtain ⟨g0, g1, g2, gf0, gf1, gf2⟩ := bz3.cells
      have gl := bz3.lt
      have hlk : (Instr.lookup 105 (.map (some o)) (.int .i64 8) false).run Tryz.prog (((w3.setCell ⟨w1.heap.size + 1, 0, none⟩ (.int .i64 yk)).setCell ⟨w1.heap.size + 1, 1, none⟩ (.int .i64 yn)).setCell ⟨w1.heap.size + 1, 2, none⟩ (.string ys)) = .ok (.func (.func 105) #[] #[]) (((w3.setCell ⟨w1.heap.size + 1, 0, none⟩ (.int .i64 yk)).setCell ⟨w1.heap.size + 1, 1, none⟩ (.int .i64 yn)).setCell ⟨w1.heap.size + 1, 2, none⟩ (.string ys)) :=
        run_get Tryz.underlying105 Tryz.underlying3 (show MapKept.IsKey (.int .i64) (.int .i64 8) by simp [MapKept.IsKey]) h2.hob (i := 3) rfl
      go_wp2_with fail
      clear hlk t0 t1 t2 tf0 tf1 tf2 tl p0 p1 p2 pf0 pf1 pf2 pl g0 g1 g2 gf0 gf1 gf2 gl
      refine (show Calls Tryz.prog 105 #[.agg #[.int .i64 xk, .int .i64 xn, .string xs], .agg #[.int .i64 yk, .int .i64 yn, .string ys]] _ (OpPost (Pl.opOf 8 ⟨xk, xn, xs⟩ ⟨yk, yn, ys⟩) _) from op_any 8 (by decide) (by decide) ⟨xk, xn, xs⟩ ⟨yk, yn, ys⟩ _ HX.out HY.out).mono ?_
      rintro e w3 ⟨hr3, hb3⟩
      have h3 := h2.below hb3 HN.out
      have br3 := br2.keep hb3
      have HB3 := Lib.hid (HB2.out.trans (hb3.mono HB2.out.size))
      obtain ⟨vo, hvo⟩ : ∃ vo, vo = Pl.opOf 8 ⟨xk, xn, xs⟩ ⟨yk, yn, ys⟩ := ⟨_, rfl⟩
      rw [← hvo] at hr3
      have HVO := Lib.hid hvo
      clear hvo hb3
      obtain ⟨r0, r1, r2, rf0, rf1, rf2⟩ := br3.cells
      have rl := br3.lt
      cases vo with
      | none =>
        obtain rfl : e = .panicked noneP := hr3
        go_wp2
        refine ⟨rfl, ?_⟩
        have hval : Pl.val env (.bi ⟨8, tn, s⟩ a b) = (Pl.opOf 8 ⟨xk, xn, xs⟩ ⟨yk, yn, ys⟩).bind fun v => if Pl.validV v = true then some v else none := by
          simp only [Pl.val, ← HVa.out, ← HVb.out, Option.bind_some, Pl.app]
        rw [hval]
        rw [← HVO.out]
        exact ⟨rfl, HB3.out⟩
      | some u =>
        obtain rfl : e = .returned u.agg := hr3
        obtain ⟨uk, un, us⟩ := u
        unfold Tm.agg
        obtain ⟨vb, hvb⟩ : ∃ vb, vb = Pl.validV ⟨uk, un, us⟩ := ⟨_, rfl⟩
        have HVB := Lib.hid hvb
        clear hvb
        have br4 := br3.keep (below1 w3 (.cells #[.int .i64 uk, .int .i64 un, .string us] 48))
        have HB4 := Lib.hid (HB3.out.trans ((below1 w3 (.cells #[.int .i64 uk, .int .i64 un, .string us] 48)).mono HB3.out.size))
        have bu4 := Box3.new w3 (.int .i64 uk) (.int .i64 un) (.string us) 48
        go_wp2_with fail
        refine (show Calls Tryz.prog 30 #[.agg #[.int .i64 uk, .int .i64 un, .string us]] (w3.alloc (.cells #[.int .i64 uk, .int .i64 un, .string us] 48)) _ from validValue_is ⟨uk, un, us⟩ vb _ HVB).mono ?_
        rintro e w5 ⟨rfl, hb5⟩
        have br5 := br4.keep hb5
        have bu5 := bu4.keep hb5
        have HB5 := Lib.hid (HB4.out.trans (hb5.mono HB4.out.size))
        clear hb5 r0 r1 r2 rf0 rf1 rf2 rl
        obtain ⟨r0, r1, r2, rf0, rf1, rf2⟩ := br5.cells
        have rl := br5.lt
        obtain ⟨u0, u1, u2, uf0, uf1, uf2⟩ := bu5.cells
        have ul := bu5.lt
        cases vb with
        | true =>
          go_wp2
          obtain ⟨z0, z1, z2⟩ := set3 r0 r1 r2 (.int .i64 uk) (.int .i64 un) (.string us)
          refine bodyPost_ret (v := .agg #[.int .i64 uk, .int .i64 un, .string us]) (by simp [results, Tryz.results65, go_sem, z0, z1, z2]) rfl ?_
          have hval : Pl.val env (.bi ⟨8, tn, s⟩ a b) = (Pl.opOf 8 ⟨xk, xn, xs⟩ ⟨yk, yn, ys⟩).bind fun v => if Pl.validV v = true then some v else none := by
            simp only [Pl.val, ← HVa.out, ← HVb.out, Option.bind_some, Pl.app]
          rw [hval]
          rw [← HVO.out]
          simp only [Option.bind_some]
          rw [if_pos HVB.out.symm]
          exact ⟨rfl, ((HB5.out.setCell (p := ⟨w.heap.size, 0, none⟩) (Nat.le_refl _) _).setCell (p := ⟨w.heap.size, 1, none⟩) (Nat.le_refl _) _).setCell (p := ⟨w.heap.size, 2, none⟩) (Nat.le_refl _) _⟩
        | false =>
          go_wp2
          refine ⟨rfl, ?_⟩
          have hval : Pl.val env (.bi ⟨8, tn, s⟩ a b) = (Pl.opOf 8 ⟨xk, xn, xs⟩ ⟨yk, yn, ys⟩).bind fun v => if Pl.validV v = true then some v else none := by
            simp only [Pl.val, ← HVa.out, ← HVb.out, Option.bind_some, Pl.app]
          rw [hval]
          rw [← HVO.out]
          simp only [Option.bind_some]
          rw [if_neg (by rw [← HVB.out]; decide)]
          exact ⟨rfl, HB5.out⟩
set_option maxRecDepth 100000 in
set_option maxHeartbeats 2000000 in
theorem fd_bi9 (q mb sb fb ob m o d off c : Nat) (ts : List Tm) (es : Array MapEntry) (clk : Nat) (env : ByteArray → Tm) (hl : ts.length ≤ 60) (t : Tm) (a b : Fm) (ht : t.k = 9) (ia : Fd q mb sb fb ob m o d off c ts es clk env a) (ib : Fd q mb sb fb ob m o d off c ts es clk env b) : Fd q mb sb fb ob m o d off c ts es clk env (.bi t a b) := by
  intro pre post i w hwf hts hi he hem h
  have hget := mid_get (t := t) (post := a.flat ++ (b.flat ++ post)) (by simpa [Fm.flat] using hts)
  have hlt : pre.length < ts.length := (List.getElem?_eq_some_iff.1 hget).1
  have hne : ts ≠ [] := by intro e; rw [e] at hlt; simp at hlt
  obtain ⟨m0, m1, m2, m3⟩ := h.ss.row pre.length t hget
  have uu := And.intro hl hl
  clear uu
  have hv := h.ss.hv
  have hcap := h.ss.cap
  have hdl := lt_of_cell m0
  have hql := lt_of_cell hv
  have H := Lib.hid h
  have HT := Lib.hid hts
  have HW := Lib.hid hwf
  have HE := Lib.hid he
  have HEM := Lib.hid hem
  have HN := Lib.hid hne
  obtain ⟨k, tn, s⟩ := t
  simp only at *
  subst ht hi
  have hff := h.hf
  have hfl := lt_of_cell hff
  have hol := lt_of_cell h.ho
  have hsl := lt_of_cell h.ss.hs
  clear h hts hwf he hem m3 hget hne
  go_enter Tryz.func65, Tryz.ntmps65
  go_wp2_with fail
  have hb0 := below2 w (.cells #[.int .i64 0, .int .i64 0, .string ⟨#[]⟩] 48) (.cells #[.int .i64 9, .int .i64 tn, .string s] 24)
  have h0 := H.out.below hb0 HN.out
  have br : Box3 ((w.alloc (.cells #[.int .i64 0, .int .i64 0, .string ⟨#[]⟩] 48)).alloc (.cells #[.int .i64 9, .int .i64 tn, .string s] 24)) w.heap.size (.int .i64 0) (.int .i64 0) (.string ⟨#[]⟩) 48 := (Box3.new w _ _ _ _).keep (below1 _ _)
  have bt : Box3 ((w.alloc (.cells #[.int .i64 0, .int .i64 0, .string ⟨#[]⟩] 48)).alloc (.cells #[.int .i64 9, .int .i64 tn, .string s] 24)) (w.heap.size + 1) (.int .i64 9) (.int .i64 tn) (.string s) 24 := by
    have := Box3.new (w.alloc (.cells #[.int .i64 0, .int .i64 0, .string ⟨#[]⟩] 48)) (.int .i64 9) (.int .i64 tn) (.string s) 24
    simpa using this
  generalize ((w.alloc (.cells #[.int .i64 0, .int .i64 0, .string ⟨#[]⟩] 48)).alloc (.cells #[.int .i64 9, .int .i64 tn, .string s] 24)) = w0 at hb0 h0 br bt ⊢
  refine (ia (pre ++ [⟨9, tn, s⟩]) (b.flat ++ post) _ _ HW.out.2.2.1 (by rw [HT.out]; simp [Fm.flat]) (by simp <;> omega) (fun t ht => HE.out t (by simp [Fm.flat, ht])) (fun t ht => HEM.out t (by simp [Fm.flat, ht])) h0).mono ?_
  rintro e w1 ⟨hr, hb1⟩
  have h1 := h0.below hb1 HN.out
  have br1 := br.keep hb1
  have bt1 := bt.keep hb1
  have HB1 := Lib.hid (hb0.trans (hb1.mono hb0.size))
  obtain ⟨va, hva⟩ : ∃ va, va = Pl.val env a := ⟨_, rfl⟩
  rw [← hva] at hr
  have HVa := Lib.hid hva
  clear hva
  cases va with
  | none =>
    obtain rfl : e = .panicked noneP := hr
    go_wp2
    refine ⟨rfl, ?_⟩
    have hval : Pl.val env (.bi ⟨9, tn, s⟩ a b) = none := by simp only [Pl.val, ← HVa.out, Option.bind_none]
    rw [hval]
    exact ⟨rfl, HB1.out⟩
  | some x =>
    have HX := Lib.hid (small_of_valid (Pl.val_valid a x HW.out.2.2.1 (fun t ht => HE.out t (by simp [Fm.flat, ht])) HVa.out.symm))
    obtain rfl : e = .returned x.agg := hr
    obtain ⟨xk, xn, xs⟩ := x
    unfold Tm.agg
    have hb2 := below2 w1 (.cells #[.int .i64 xk, .int .i64 xn, .string xs] 48) (.cells #[.int .i64 0, .int .i64 0, .string ⟨#[]⟩] 48)
    have hh2 := h1.below hb2 HN.out
    have br2' := br1.keep hb2
    have bt2 := bt1.keep hb2
    have HB2' := Lib.hid (HB1.out.trans (hb2.mono HB1.out.size))
    have bx2 : Box3 ((w1.alloc (.cells #[.int .i64 xk, .int .i64 xn, .string xs] 48)).alloc (.cells #[.int .i64 0, .int .i64 0, .string ⟨#[]⟩] 48)) w1.heap.size (.int .i64 xk) (.int .i64 xn) (.string xs) 48 := (Box3.new w1 _ _ _ _).keep (below1 _ _)
    have bz2 : Box3 ((w1.alloc (.cells #[.int .i64 xk, .int .i64 xn, .string xs] 48)).alloc (.cells #[.int .i64 0, .int .i64 0, .string ⟨#[]⟩] 48)) (w1.heap.size + 1) (.int .i64 0) (.int .i64 0) (.string ⟨#[]⟩) 48 := by
      have := Box3.new (w1.alloc (.cells #[.int .i64 xk, .int .i64 xn, .string xs] 48)) (.int .i64 0) (.int .i64 0) (.string ⟨#[]⟩) 48
      simpa using this
    clear hb2
    obtain ⟨t0, t1, t2, tf0, tf1, tf2⟩ := bt1.cells
    have tl := bt1.lt
    have rl := br1.lt
    go_wp2_with (go_at_call 49; refine (operands_is 9 2 _ (Lib.hid rfl)).mono ?_; rintro e w' ⟨rfl, rfl⟩)
    clear t0 t1 t2 tf0 tf1 tf2 tl rl
    generalize ((w1.alloc (.cells #[.int .i64 xk, .int .i64 xn, .string xs] 48)).alloc (.cells #[.int .i64 0, .int .i64 0, .string ⟨#[]⟩] 48)) = w2 at hh2 br2' bt2 HB2' bx2 bz2 ⊢
    have hff2 := hh2.hf
    have hss2 := hh2.ss.hs
    have HS := Lib.hid (sk_quiet q sb d off c ts hl a (pre ++ [⟨9, tn, s⟩]) (b.flat ++ post) ((pre.length : Int) + 1) ((pre.length : Int) + 1 + a.flat.length) w2.drew HW.out.2.2.1 (by rw [HT.out]; simp [Fm.flat]) (by simp) rfl (hh2.below (below_drewN' (Below.refl _ _) 1) HN.out).ss)
    have hwr : IntKind.i64.wrap ((pre.length : Int) + 1) = (pre.length : Int) + 1 := IntWalk.i64_in _ (by omega)
    go_still_tail 5, (by kernel_rfl)
    still_call HS.out
    clear hwr
    refine wpStill_nil ?_
    change wpList _ _ _ _ _ w2.drew
    go_wp2_with fail
    have h2d := hh2.below (below_drewN' (Below.refl w2.heap.size w2) 1) HN.out
    refine (ib (pre ++ [⟨9, tn, s⟩] ++ a.flat) post _ _ HW.out.2.2.2 (by rw [HT.out]; simp [Fm.flat]) (by simp <;> omega) (fun t ht => HE.out t (by simp [Fm.flat, ht])) (fun t ht => HEM.out t (by simp [Fm.flat, ht])) h2d).mono ?_
    rintro e w3 ⟨hr3, hb3⟩
    have hh3 := h2d.below hb3 HN.out
    have br3' := (show Box3 w2.drew w.heap.size (.int .i64 0) (.int .i64 0) (.string ⟨#[]⟩) 48 from br2').keep hb3
    have bt3 := (show Box3 w2.drew (w.heap.size + 1) (.int .i64 9) (.int .i64 tn) (.string s) 24 from bt2).keep hb3
    have bx3 := (show Box3 w2.drew w1.heap.size (.int .i64 xk) (.int .i64 xn) (.string xs) 48 from bx2).keep hb3
    have bz3 := (show Box3 w2.drew (w1.heap.size + 1) (.int .i64 0) (.int .i64 0) (.string ⟨#[]⟩) 48 from bz2).keep hb3
    have HB3' := Lib.hid (HB2'.out.trans ((below_drewN' (Below.refl w.heap.size w2) 1).trans (hb3.mono HB2'.out.size)))
    clear hb3 hh2 br2' bt2 bx2 bz2 h2d hff2 hss2
    obtain ⟨vb, hvb⟩ : ∃ va, va = Pl.val env b := ⟨_, rfl⟩
    rw [← hvb] at hr3
    have HVb := Lib.hid hvb
    clear hvb
    cases vb with
    | none =>
      obtain rfl : e = .panicked noneP := hr3
      go_wp2
      refine ⟨rfl, ?_⟩
      have hval : Pl.val env (.bi ⟨9, tn, s⟩ a b) = none := by simp only [Pl.val, ← HVa.out, ← HVb.out, Option.bind_none, Option.bind_some]
      rw [hval]
      exact ⟨rfl, HB3'.out⟩
    | some y =>
      have HY := Lib.hid (small_of_valid (Pl.val_valid b y HW.out.2.2.2 (fun t ht => HE.out t (by simp [Fm.flat, ht])) HVb.out.symm))
      obtain rfl : e = .returned y.agg := hr3
      obtain ⟨yk, yn, ys⟩ := y
      unfold Tm.agg
      have hw1 := HB1.out.size
      have HB2 := Lib.hid (((HB3'.out.setCell (p := ⟨w1.heap.size + 1, 0, none⟩) (by simp <;> omega) (.int .i64 yk)).setCell (p := ⟨w1.heap.size + 1, 1, none⟩) (by simp <;> omega) (.int .i64 yn)).setCell (p := ⟨w1.heap.size + 1, 2, none⟩) (by simp <;> omega) (.string ys))
      have h2 := H.out.below HB2.out HN.out
      have hbn : w.heap.size ≠ w1.heap.size + 1 := by omega
      have br2 : Box3 (((w3.setCell ⟨w1.heap.size + 1, 0, none⟩ (.int .i64 yk)).setCell ⟨w1.heap.size + 1, 1, none⟩ (.int .i64 yn)).setCell ⟨w1.heap.size + 1, 2, none⟩ (.string ys)) w.heap.size (.int .i64 0) (.int .i64 0) (.string ⟨#[]⟩) 48 := by
        unfold Box3
        rw [Below.heap_setCell _ _ _ _ (fun e => hbn e), Below.heap_setCell _ _ _ _ (fun e => hbn e), Below.heap_setCell _ _ _ _ (fun e => hbn e)]
        exact br3'
      have rl : w.heap.size < w1.heap.size := br1.lt
      have ho3 := hh3.ho
      have hobn : ob ≠ w1.heap.size + 1 := by omega
      clear hw1 hbn
      obtain ⟨t0, t1, t2, tf0, tf1, tf2⟩ := bt3.cells
      have tl := bt3.lt
      obtain ⟨p0, p1, p2, pf0, pf1, pf2⟩ := bx3.cells
      have pl := bx3.lt
      obtain ⟨g0, g1, g2, gf0, gf1, gf2⟩ := bz3.cells
      have gl := bz3.lt
      have hlk : (Instr.lookup 105 (.map (some o)) (.int .i64 9) false).run Tryz.prog (((w3.setCell ⟨w1.heap.size + 1, 0, none⟩ (.int .i64 yk)).setCell ⟨w1.heap.size + 1, 1, none⟩ (.int .i64 yn)).setCell ⟨w1.heap.size + 1, 2, none⟩ (.string ys)) = .ok (.func (.func 106) #[] #[]) (((w3.setCell ⟨w1.heap.size + 1, 0, none⟩ (.int .i64 yk)).setCell ⟨w1.heap.size + 1, 1, none⟩ (.int .i64 yn)).setCell ⟨w1.heap.size + 1, 2, none⟩ (.string ys)) :=
        run_get Tryz.underlying105 Tryz.underlying3 (show MapKept.IsKey (.int .i64) (.int .i64 9) by simp [MapKept.IsKey]) h2.hob (i := 4) rfl
      go_wp2_with fail
      clear hlk t0 t1 t2 tf0 tf1 tf2 tl p0 p1 p2 pf0 pf1 pf2 pl g0 g1 g2 gf0 gf1 gf2 gl
      refine (show Calls Tryz.prog 106 #[.agg #[.int .i64 xk, .int .i64 xn, .string xs], .agg #[.int .i64 yk, .int .i64 yn, .string ys]] _ (OpPost (Pl.opOf 9 ⟨xk, xn, xs⟩ ⟨yk, yn, ys⟩) _) from op_any 9 (by decide) (by decide) ⟨xk, xn, xs⟩ ⟨yk, yn, ys⟩ _ HX.out HY.out).mono ?_
      rintro e w3 ⟨hr3, hb3⟩
      have h3 := h2.below hb3 HN.out
      have br3 := br2.keep hb3
      have HB3 := Lib.hid (HB2.out.trans (hb3.mono HB2.out.size))
      obtain ⟨vo, hvo⟩ : ∃ vo, vo = Pl.opOf 9 ⟨xk, xn, xs⟩ ⟨yk, yn, ys⟩ := ⟨_, rfl⟩
      rw [← hvo] at hr3
      have HVO := Lib.hid hvo
      clear hvo hb3
      obtain ⟨r0, r1, r2, rf0, rf1, rf2⟩ := br3.cells
      have rl := br3.lt
      cases vo with
      | none =>
        obtain rfl : e = .panicked noneP := hr3
        go_wp2
        refine ⟨rfl, ?_⟩
        have hval : Pl.val env (.bi ⟨9, tn, s⟩ a b) = (Pl.opOf 9 ⟨xk, xn, xs⟩ ⟨yk, yn, ys⟩).bind fun v => if Pl.validV v = true then some v else none := by
          simp only [Pl.val, ← HVa.out, ← HVb.out, Option.bind_some, Pl.app]
        rw [hval]
        rw [← HVO.out]
        exact ⟨rfl, HB3.out⟩
      | some u =>
        obtain rfl : e = .returned u.agg := hr3
        obtain ⟨uk, un, us⟩ := u
        unfold Tm.agg
        obtain ⟨vb, hvb⟩ : ∃ vb, vb = Pl.validV ⟨uk, un, us⟩ := ⟨_, rfl⟩
        have HVB := Lib.hid hvb
        clear hvb
        have br4 := br3.keep (below1 w3 (.cells #[.int .i64 uk, .int .i64 un, .string us] 48))
        have HB4 := Lib.hid (HB3.out.trans ((below1 w3 (.cells #[.int .i64 uk, .int .i64 un, .string us] 48)).mono HB3.out.size))
        have bu4 := Box3.new w3 (.int .i64 uk) (.int .i64 un) (.string us) 48
        go_wp2_with fail
        refine (show Calls Tryz.prog 30 #[.agg #[.int .i64 uk, .int .i64 un, .string us]] (w3.alloc (.cells #[.int .i64 uk, .int .i64 un, .string us] 48)) _ from validValue_is ⟨uk, un, us⟩ vb _ HVB).mono ?_
        rintro e w5 ⟨rfl, hb5⟩
        have br5 := br4.keep hb5
        have bu5 := bu4.keep hb5
        have HB5 := Lib.hid (HB4.out.trans (hb5.mono HB4.out.size))
        clear hb5 r0 r1 r2 rf0 rf1 rf2 rl
        obtain ⟨r0, r1, r2, rf0, rf1, rf2⟩ := br5.cells
        have rl := br5.lt
        obtain ⟨u0, u1, u2, uf0, uf1, uf2⟩ := bu5.cells
        have ul := bu5.lt
        cases vb with
        | true =>
          go_wp2
          obtain ⟨z0, z1, z2⟩ := set3 r0 r1 r2 (.int .i64 uk) (.int .i64 un) (.string us)
          refine bodyPost_ret (v := .agg #[.int .i64 uk, .int .i64 un, .string us]) (by simp [results, Tryz.results65, go_sem, z0, z1, z2]) rfl ?_
          have hval : Pl.val env (.bi ⟨9, tn, s⟩ a b) = (Pl.opOf 9 ⟨xk, xn, xs⟩ ⟨yk, yn, ys⟩).bind fun v => if Pl.validV v = true then some v else none := by
            simp only [Pl.val, ← HVa.out, ← HVb.out, Option.bind_some, Pl.app]
          rw [hval]
          rw [← HVO.out]
          simp only [Option.bind_some]
          rw [if_pos HVB.out.symm]
          exact ⟨rfl, ((HB5.out.setCell (p := ⟨w.heap.size, 0, none⟩) (Nat.le_refl _) _).setCell (p := ⟨w.heap.size, 1, none⟩) (Nat.le_refl _) _).setCell (p := ⟨w.heap.size, 2, none⟩) (Nat.le_refl _) _⟩
        | false =>
          go_wp2
          refine ⟨rfl, ?_⟩
          have hval : Pl.val env (.bi ⟨9, tn, s⟩ a b) = (Pl.opOf 9 ⟨xk, xn, xs⟩ ⟨yk, yn, ys⟩).bind fun v => if Pl.validV v = true then some v else none := by
            simp only [Pl.val, ← HVa.out, ← HVb.out, Option.bind_some, Pl.app]
          rw [hval]
          rw [← HVO.out]
          simp only [Option.bind_some]
          rw [if_neg (by rw [← HVB.out]; decide)]
          exact ⟨rfl, HB5.out⟩
set_option maxRecDepth 100000 in
set_option maxHeartbeats 2000000 in
theorem fd_bi10 (q mb sb fb ob m o d off c : Nat) (ts : List Tm) (es : Array MapEntry) (clk : Nat) (env : ByteArray → Tm) (hl : ts.length ≤ 60) (t : Tm) (a b : Fm) (ht : t.k = 10) (ia : Fd q mb sb fb ob m o d off c ts es clk env a) (ib : Fd q mb sb fb ob m o d off c ts es clk env b) : Fd q mb sb fb ob m o d off c ts es clk env (.bi t a b) := by
  intro pre post i w hwf hts hi he hem h
  have hget := mid_get (t := t) (post := a.flat ++ (b.flat ++ post)) (by simpa [Fm.flat] using hts)
  have hlt : pre.length < ts.length := (List.getElem?_eq_some_iff.1 hget).1
  have hne : ts ≠ [] := by intro e; rw [e] at hlt; simp at hlt
  obtain ⟨m0, m1, m2, m3⟩ := h.ss.row pre.length t hget
  have uu := And.intro hl hl
  clear uu
  have hv := h.ss.hv
  have hcap := h.ss.cap
  have hdl := lt_of_cell m0
  have hql := lt_of_cell hv
  have H := Lib.hid h
  have HT := Lib.hid hts
  have HW := Lib.hid hwf
  have HE := Lib.hid he
  have HEM := Lib.hid hem
  have HN := Lib.hid hne
  obtain ⟨k, tn, s⟩ := t
  simp only at *
  subst ht hi
  have hff := h.hf
  have hfl := lt_of_cell hff
  have hol := lt_of_cell h.ho
  have hsl := lt_of_cell h.ss.hs
  clear h hts hwf he hem m3 hget hne
  go_enter Tryz.func65, Tryz.ntmps65
  go_wp2_with fail
  have hb0 := below2 w (.cells #[.int .i64 0, .int .i64 0, .string ⟨#[]⟩] 48) (.cells #[.int .i64 10, .int .i64 tn, .string s] 24)
  have h0 := H.out.below hb0 HN.out
  have br : Box3 ((w.alloc (.cells #[.int .i64 0, .int .i64 0, .string ⟨#[]⟩] 48)).alloc (.cells #[.int .i64 10, .int .i64 tn, .string s] 24)) w.heap.size (.int .i64 0) (.int .i64 0) (.string ⟨#[]⟩) 48 := (Box3.new w _ _ _ _).keep (below1 _ _)
  have bt : Box3 ((w.alloc (.cells #[.int .i64 0, .int .i64 0, .string ⟨#[]⟩] 48)).alloc (.cells #[.int .i64 10, .int .i64 tn, .string s] 24)) (w.heap.size + 1) (.int .i64 10) (.int .i64 tn) (.string s) 24 := by
    have := Box3.new (w.alloc (.cells #[.int .i64 0, .int .i64 0, .string ⟨#[]⟩] 48)) (.int .i64 10) (.int .i64 tn) (.string s) 24
    simpa using this
  generalize ((w.alloc (.cells #[.int .i64 0, .int .i64 0, .string ⟨#[]⟩] 48)).alloc (.cells #[.int .i64 10, .int .i64 tn, .string s] 24)) = w0 at hb0 h0 br bt ⊢
  refine (ia (pre ++ [⟨10, tn, s⟩]) (b.flat ++ post) _ _ HW.out.2.2.1 (by rw [HT.out]; simp [Fm.flat]) (by simp <;> omega) (fun t ht => HE.out t (by simp [Fm.flat, ht])) (fun t ht => HEM.out t (by simp [Fm.flat, ht])) h0).mono ?_
  rintro e w1 ⟨hr, hb1⟩
  have h1 := h0.below hb1 HN.out
  have br1 := br.keep hb1
  have bt1 := bt.keep hb1
  have HB1 := Lib.hid (hb0.trans (hb1.mono hb0.size))
  obtain ⟨va, hva⟩ : ∃ va, va = Pl.val env a := ⟨_, rfl⟩
  rw [← hva] at hr
  have HVa := Lib.hid hva
  clear hva
  cases va with
  | none =>
    obtain rfl : e = .panicked noneP := hr
    go_wp2
    refine ⟨rfl, ?_⟩
    have hval : Pl.val env (.bi ⟨10, tn, s⟩ a b) = none := by simp only [Pl.val, ← HVa.out, Option.bind_none]
    rw [hval]
    exact ⟨rfl, HB1.out⟩
  | some x =>
    have HX := Lib.hid (small_of_valid (Pl.val_valid a x HW.out.2.2.1 (fun t ht => HE.out t (by simp [Fm.flat, ht])) HVa.out.symm))
    obtain rfl : e = .returned x.agg := hr
    obtain ⟨xk, xn, xs⟩ := x
    unfold Tm.agg
    have hb2 := below2 w1 (.cells #[.int .i64 xk, .int .i64 xn, .string xs] 48) (.cells #[.int .i64 0, .int .i64 0, .string ⟨#[]⟩] 48)
    have hh2 := h1.below hb2 HN.out
    have br2' := br1.keep hb2
    have bt2 := bt1.keep hb2
    have HB2' := Lib.hid (HB1.out.trans (hb2.mono HB1.out.size))
    have bx2 : Box3 ((w1.alloc (.cells #[.int .i64 xk, .int .i64 xn, .string xs] 48)).alloc (.cells #[.int .i64 0, .int .i64 0, .string ⟨#[]⟩] 48)) w1.heap.size (.int .i64 xk) (.int .i64 xn) (.string xs) 48 := (Box3.new w1 _ _ _ _).keep (below1 _ _)
    have bz2 : Box3 ((w1.alloc (.cells #[.int .i64 xk, .int .i64 xn, .string xs] 48)).alloc (.cells #[.int .i64 0, .int .i64 0, .string ⟨#[]⟩] 48)) (w1.heap.size + 1) (.int .i64 0) (.int .i64 0) (.string ⟨#[]⟩) 48 := by
      have := Box3.new (w1.alloc (.cells #[.int .i64 xk, .int .i64 xn, .string xs] 48)) (.int .i64 0) (.int .i64 0) (.string ⟨#[]⟩) 48
      simpa using this
    clear hb2
    obtain ⟨t0, t1, t2, tf0, tf1, tf2⟩ := bt1.cells
    have tl := bt1.lt
    have rl := br1.lt
    go_wp2_with (go_at_call 49; refine (operands_is 10 2 _ (Lib.hid rfl)).mono ?_; rintro e w' ⟨rfl, rfl⟩)
    clear t0 t1 t2 tf0 tf1 tf2 tl rl
    generalize ((w1.alloc (.cells #[.int .i64 xk, .int .i64 xn, .string xs] 48)).alloc (.cells #[.int .i64 0, .int .i64 0, .string ⟨#[]⟩] 48)) = w2 at hh2 br2' bt2 HB2' bx2 bz2 ⊢
    have hff2 := hh2.hf
    have hss2 := hh2.ss.hs
    have HS := Lib.hid (sk_quiet q sb d off c ts hl a (pre ++ [⟨10, tn, s⟩]) (b.flat ++ post) ((pre.length : Int) + 1) ((pre.length : Int) + 1 + a.flat.length) w2.drew HW.out.2.2.1 (by rw [HT.out]; simp [Fm.flat]) (by simp) rfl (hh2.below (below_drewN' (Below.refl _ _) 1) HN.out).ss)
    have hwr : IntKind.i64.wrap ((pre.length : Int) + 1) = (pre.length : Int) + 1 := IntWalk.i64_in _ (by omega)
    go_still_tail 5, (by kernel_rfl)
    still_call HS.out
    clear hwr
    refine wpStill_nil ?_
    change wpList _ _ _ _ _ w2.drew
    go_wp2_with fail
    have h2d := hh2.below (below_drewN' (Below.refl w2.heap.size w2) 1) HN.out
    refine (ib (pre ++ [⟨10, tn, s⟩] ++ a.flat) post _ _ HW.out.2.2.2 (by rw [HT.out]; simp [Fm.flat]) (by simp <;> omega) (fun t ht => HE.out t (by simp [Fm.flat, ht])) (fun t ht => HEM.out t (by simp [Fm.flat, ht])) h2d).mono ?_
    rintro e w3 ⟨hr3, hb3⟩
    have hh3 := h2d.below hb3 HN.out
    have br3' := (show Box3 w2.drew w.heap.size (.int .i64 0) (.int .i64 0) (.string ⟨#[]⟩) 48 from br2').keep hb3
    have bt3 := (show Box3 w2.drew (w.heap.size + 1) (.int .i64 10) (.int .i64 tn) (.string s) 24 from bt2).keep hb3
    have bx3 := (show Box3 w2.drew w1.heap.size (.int .i64 xk) (.int .i64 xn) (.string xs) 48 from bx2).keep hb3
    have bz3 := (show Box3 w2.drew (w1.heap.size + 1) (.int .i64 0) (.int .i64 0) (.string ⟨#[]⟩) 48 from bz2).keep hb3
    have HB3' := Lib.hid (HB2'.out.trans ((below_drewN' (Below.refl w.heap.size w2) 1).trans (hb3.mono HB2'.out.size)))
    clear hb3 hh2 br2' bt2 bx2 bz2 h2d hff2 hss2
    obtain ⟨vb, hvb⟩ : ∃ va, va = Pl.val env b := ⟨_, rfl⟩
    rw [← hvb] at hr3
    have HVb := Lib.hid hvb
    clear hvb
    cases vb with
    | none =>
      obtain rfl : e = .panicked noneP := hr3
      go_wp2
      refine ⟨rfl, ?_⟩
      have hval : Pl.val env (.bi ⟨10, tn, s⟩ a b) = none := by simp only [Pl.val, ← HVa.out, ← HVb.out, Option.bind_none, Option.bind_some]
      rw [hval]
      exact ⟨rfl, HB3'.out⟩
    | some y =>
      have HY := Lib.hid (small_of_valid (Pl.val_valid b y HW.out.2.2.2 (fun t ht => HE.out t (by simp [Fm.flat, ht])) HVb.out.symm))
      obtain rfl : e = .returned y.agg := hr3
      obtain ⟨yk, yn, ys⟩ := y
      unfold Tm.agg
      have hw1 := HB1.out.size
      have HB2 := Lib.hid (((HB3'.out.setCell (p := ⟨w1.heap.size + 1, 0, none⟩) (by simp <;> omega) (.int .i64 yk)).setCell (p := ⟨w1.heap.size + 1, 1, none⟩) (by simp <;> omega) (.int .i64 yn)).setCell (p := ⟨w1.heap.size + 1, 2, none⟩) (by simp <;> omega) (.string ys))
      have h2 := H.out.below HB2.out HN.out
      have hbn : w.heap.size ≠ w1.heap.size + 1 := by omega
      have br2 : Box3 (((w3.setCell ⟨w1.heap.size + 1, 0, none⟩ (.int .i64 yk)).setCell ⟨w1.heap.size + 1, 1, none⟩ (.int .i64 yn)).setCell ⟨w1.heap.size + 1, 2, none⟩ (.string ys)) w.heap.size (.int .i64 0) (.int .i64 0) (.string ⟨#[]⟩) 48 := by
        unfold Box3
        rw [Below.heap_setCell _ _ _ _ (fun e => hbn e), Below.heap_setCell _ _ _ _ (fun e => hbn e), Below.heap_setCell _ _ _ _ (fun e => hbn e)]
        exact br3'
      have rl : w.heap.size < w1.heap.size := br1.lt
      have ho3 := hh3.ho
      have hobn : ob ≠ w1.heap.size + 1 := by omega
      clear hw1 hbn
      obtain ⟨t0, t1, t2, tf0, tf1, tf2⟩ := bt3.cells
      have tl := bt3.lt
      obtain ⟨p0, p1, p2, pf0, pf1, pf2⟩ := bx3.cells
      have pl := bx3.lt
      obtain ⟨g0, g1, g2, gf0, gf1, gf2⟩ := bz3.cells
      have gl := bz3.lt
      have hlk : (Instr.lookup 105 (.map (some o)) (.int .i64 10) false).run Tryz.prog (((w3.setCell ⟨w1.heap.size + 1, 0, none⟩ (.int .i64 yk)).setCell ⟨w1.heap.size + 1, 1, none⟩ (.int .i64 yn)).setCell ⟨w1.heap.size + 1, 2, none⟩ (.string ys)) = .ok (.func (.func 107) #[] #[]) (((w3.setCell ⟨w1.heap.size + 1, 0, none⟩ (.int .i64 yk)).setCell ⟨w1.heap.size + 1, 1, none⟩ (.int .i64 yn)).setCell ⟨w1.heap.size + 1, 2, none⟩ (.string ys)) :=
        run_get Tryz.underlying105 Tryz.underlying3 (show MapKept.IsKey (.int .i64) (.int .i64 10) by simp [MapKept.IsKey]) h2.hob (i := 5) rfl
      go_wp2_with fail
      clear hlk t0 t1 t2 tf0 tf1 tf2 tl p0 p1 p2 pf0 pf1 pf2 pl g0 g1 g2 gf0 gf1 gf2 gl
      refine (show Calls Tryz.prog 107 #[.agg #[.int .i64 xk, .int .i64 xn, .string xs], .agg #[.int .i64 yk, .int .i64 yn, .string ys]] _ (OpPost (Pl.opOf 10 ⟨xk, xn, xs⟩ ⟨yk, yn, ys⟩) _) from op_any 10 (by decide) (by decide) ⟨xk, xn, xs⟩ ⟨yk, yn, ys⟩ _ HX.out HY.out).mono ?_
      rintro e w3 ⟨hr3, hb3⟩
      have h3 := h2.below hb3 HN.out
      have br3 := br2.keep hb3
      have HB3 := Lib.hid (HB2.out.trans (hb3.mono HB2.out.size))
      obtain ⟨vo, hvo⟩ : ∃ vo, vo = Pl.opOf 10 ⟨xk, xn, xs⟩ ⟨yk, yn, ys⟩ := ⟨_, rfl⟩
      rw [← hvo] at hr3
      have HVO := Lib.hid hvo
      clear hvo hb3
      obtain ⟨r0, r1, r2, rf0, rf1, rf2⟩ := br3.cells
      have rl := br3.lt
      cases vo with
      | none =>
        obtain rfl : e = .panicked noneP := hr3
        go_wp2
        refine ⟨rfl, ?_⟩
        have hval : Pl.val env (.bi ⟨10, tn, s⟩ a b) = (Pl.opOf 10 ⟨xk, xn, xs⟩ ⟨yk, yn, ys⟩).bind fun v => if Pl.validV v = true then some v else none := by
          simp only [Pl.val, ← HVa.out, ← HVb.out, Option.bind_some, Pl.app]
        rw [hval]
        rw [← HVO.out]
        exact ⟨rfl, HB3.out⟩
      | some u =>
        obtain rfl : e = .returned u.agg := hr3
        obtain ⟨uk, un, us⟩ := u
        unfold Tm.agg
        obtain ⟨vb, hvb⟩ : ∃ vb, vb = Pl.validV ⟨uk, un, us⟩ := ⟨_, rfl⟩
        have HVB := Lib.hid hvb
        clear hvb
        have br4 := br3.keep (below1 w3 (.cells #[.int .i64 uk, .int .i64 un, .string us] 48))
        have HB4 := Lib.hid (HB3.out.trans ((below1 w3 (.cells #[.int .i64 uk, .int .i64 un, .string us] 48)).mono HB3.out.size))
        have bu4 := Box3.new w3 (.int .i64 uk) (.int .i64 un) (.string us) 48
        go_wp2_with fail
        refine (show Calls Tryz.prog 30 #[.agg #[.int .i64 uk, .int .i64 un, .string us]] (w3.alloc (.cells #[.int .i64 uk, .int .i64 un, .string us] 48)) _ from validValue_is ⟨uk, un, us⟩ vb _ HVB).mono ?_
        rintro e w5 ⟨rfl, hb5⟩
        have br5 := br4.keep hb5
        have bu5 := bu4.keep hb5
        have HB5 := Lib.hid (HB4.out.trans (hb5.mono HB4.out.size))
        clear hb5 r0 r1 r2 rf0 rf1 rf2 rl
        obtain ⟨r0, r1, r2, rf0, rf1, rf2⟩ := br5.cells
        have rl := br5.lt
        obtain ⟨u0, u1, u2, uf0, uf1, uf2⟩ := bu5.cells
        have ul := bu5.lt
        cases vb with
        | true =>
          go_wp2
          obtain ⟨z0, z1, z2⟩ := set3 r0 r1 r2 (.int .i64 uk) (.int .i64 un) (.string us)
          refine bodyPost_ret (v := .agg #[.int .i64 uk, .int .i64 un, .string us]) (by simp [results, Tryz.results65, go_sem, z0, z1, z2]) rfl ?_
          have hval : Pl.val env (.bi ⟨10, tn, s⟩ a b) = (Pl.opOf 10 ⟨xk, xn, xs⟩ ⟨yk, yn, ys⟩).bind fun v => if Pl.validV v = true then some v else none := by
            simp only [Pl.val, ← HVa.out, ← HVb.out, Option.bind_some, Pl.app]
          rw [hval]
          rw [← HVO.out]
          simp only [Option.bind_some]
          rw [if_pos HVB.out.symm]
          exact ⟨rfl, ((HB5.out.setCell (p := ⟨w.heap.size, 0, none⟩) (Nat.le_refl _) _).setCell (p := ⟨w.heap.size, 1, none⟩) (Nat.le_refl _) _).setCell (p := ⟨w.heap.size, 2, none⟩) (Nat.le_refl _) _⟩
        | false =>
          go_wp2
          refine ⟨rfl, ?_⟩
          have hval : Pl.val env (.bi ⟨10, tn, s⟩ a b) = (Pl.opOf 10 ⟨xk, xn, xs⟩ ⟨yk, yn, ys⟩).bind fun v => if Pl.validV v = true then some v else none := by
            simp only [Pl.val, ← HVa.out, ← HVb.out, Option.bind_some, Pl.app]
          rw [hval]
          rw [← HVO.out]
          simp only [Option.bind_some]
          rw [if_neg (by rw [← HVB.out]; decide)]
          exact ⟨rfl, HB5.out⟩
end Go.Proofs.YtchoelgkcnnnkaaGreatDoor
