/- WALK: formula.Value's closure that finds a value, a choice. Printed by genvb.py. -/
import Derived.Test.YtchoelgkcnnnkaaGreatDoorValB
set_option linter.all false
namespace Go.Proofs.YtchoelgkcnnnkaaGreatDoor
open Go.RowKit
set_option maxRecDepth 100000 in
set_option maxHeartbeats 2000000 in
theorem fd_tr (q mb sb fb ob m o d off c : Nat) (ts : List Tm) (es : Array MapEntry) (clk : Nat) (env : ByteArray → Tm) (hl : ts.length ≤ 60) (t : Tm) (a b g : Fm) (ht : t.k = 17) (ia : Fd q mb sb fb ob m o d off c ts es clk env a) (ib : Fd q mb sb fb ob m o d off c ts es clk env b) (ig : Fd q mb sb fb ob m o d off c ts es clk env g) : Fd q mb sb fb ob m o d off c ts es clk env (.tr t a b g) := by
  intro pre post i w hwf hts hi he hem h
  have hget := mid_get (t := t) (post := a.flat ++ (b.flat ++ (g.flat ++ post))) (by simpa [Fm.flat] using hts)
  have hlt : pre.length < ts.length := (List.getElem?_eq_some_iff.1 hget).1
  have hne : ts ≠ [] := by intro e; rw [e] at hlt; simp at hlt
  obtain ⟨m0, m1, m2, m3⟩ := h.ss.row pre.length t hget
  have uu := And.intro hl hl
  clear uu
  have hv := h.ss.hv
  have hcap := h.ss.cap
  have hdl := lt_of_cell m0
  have hql := lt_of_cell hv
  have H := Lib.hid h
  have HT := Lib.hid hts
  have HW := Lib.hid hwf
  have HE := Lib.hid he
  have HEM := Lib.hid hem
  have HN := Lib.hid hne
  obtain ⟨k, tn, s⟩ := t
  simp only at *
  subst ht hi
  have hff := h.hf
  have hfl := lt_of_cell hff
  have hss := h.ss.hs
  have hsl := lt_of_cell h.ss.hs
  clear h hts hwf he hem m3 hget hne
  go_enter Tryz.func65, Tryz.ntmps65
  go_wp2_with fail
  have hb0 := below2 w (.cells #[.int .i64 0, .int .i64 0, .string ⟨#[]⟩] 48) (.cells #[.int .i64 17, .int .i64 tn, .string s] 24)
  have h0 := H.out.below hb0 HN.out
  have br : Box3 ((w.alloc (.cells #[.int .i64 0, .int .i64 0, .string ⟨#[]⟩] 48)).alloc (.cells #[.int .i64 17, .int .i64 tn, .string s] 24)) w.heap.size (.int .i64 0) (.int .i64 0) (.string ⟨#[]⟩) 48 := (Box3.new w _ _ _ _).keep (below1 _ _)
  have bt : Box3 ((w.alloc (.cells #[.int .i64 0, .int .i64 0, .string ⟨#[]⟩] 48)).alloc (.cells #[.int .i64 17, .int .i64 tn, .string s] 24)) (w.heap.size + 1) (.int .i64 17) (.int .i64 tn) (.string s) 24 := by
    have := Box3.new (w.alloc (.cells #[.int .i64 0, .int .i64 0, .string ⟨#[]⟩] 48)) (.int .i64 17) (.int .i64 tn) (.string s) 24
    simpa using this
  generalize ((w.alloc (.cells #[.int .i64 0, .int .i64 0, .string ⟨#[]⟩] 48)).alloc (.cells #[.int .i64 17, .int .i64 tn, .string s] 24)) = w0 at hb0 h0 br bt ⊢
  have hss0 := h0.ss.hs
  have hff0 := h0.hf
  refine (sk_quiet q sb d off c ts hl a (pre ++ [⟨17, tn, s⟩]) (b.flat ++ (g.flat ++ post)) _ ((pre.length : Int) + 1 + a.flat.length) _ HW.out.2.2.1 (by rw [HT.out]; simp [Fm.flat]) (by simp) (by simp) h0.ss).mono ?_
  rintro e wq ⟨rfl, hwq⟩
  subst hwq
  go_wp2_with fail
  refine (ia (pre ++ [⟨17, tn, s⟩]) (b.flat ++ (g.flat ++ post)) _ _ HW.out.2.2.1 (by rw [HT.out]; simp [Fm.flat]) (by simp <;> omega) (fun t ht => HE.out t (by simp [Fm.flat, ht])) (fun t ht => HEM.out t (by simp [Fm.flat, ht])) h0).mono ?_
  rintro e w1 ⟨hr, hb1⟩
  have h1 := h0.below hb1 HN.out
  have br1 := br.keep hb1
  have bt1 := bt.keep hb1
  have HB1 := Lib.hid (hb0.trans (hb1.mono hb0.size))
  obtain ⟨va, hva⟩ : ∃ va, va = Pl.val env a := ⟨_, rfl⟩
  rw [← hva] at hr
  have HVa := Lib.hid hva
  clear hva
  cases va with
  | none =>
    obtain rfl : e = .panicked noneP := hr
    go_wp2
    refine ⟨rfl, ?_⟩
    have hval : Pl.val env (.tr ⟨17, tn, s⟩ a b g) = none := by simp only [Pl.val, ← HVa.out, Option.bind_none]
    rw [hval]
    exact ⟨rfl, HB1.out⟩
  | some x =>
    obtain rfl : e = .returned x.agg := hr
    obtain ⟨xk, xn, xs⟩ := x
    unfold Tm.agg
    have hss1 := h1.ss.hs
    have hff1 := h1.hf
    have hfd : ∀ W : World, (Instr.field 48 (.agg #[.int .i64 xk, .int .i64 xn, .string xs]) 1).run Tryz.prog W = .ok (.int .i64 xn) W := fun W => by kernel_rfl
    by_cases hx1 : xn = 1
    · have e1 : (xn == 1) = true := by simpa using hx1
      have HX1 := Lib.hid hx1
      clear hx1
      go_wp2_with fail
      refine (ib (pre ++ [⟨17, tn, s⟩] ++ a.flat) (g.flat ++ post) _ _ HW.out.2.2.2.1 (by rw [HT.out]; simp [Fm.flat]) (by simp <;> omega) (fun t ht => HE.out t (by simp [Fm.flat, ht])) (fun t ht => HEM.out t (by simp [Fm.flat, ht])) h1).mono ?_
      rintro e w3 ⟨hr3, hb3⟩
      have br3 := br1.keep hb3
      have HB3 := Lib.hid (HB1.out.trans (hb3.mono HB1.out.size))
      obtain ⟨vy, hvy⟩ : ∃ va, va = Pl.val env b := ⟨_, rfl⟩
      rw [← hvy] at hr3
      have HVY := Lib.hid hvy
      clear hvy
      have hval : Pl.val env (.tr ⟨17, tn, s⟩ a b g) = vy := by simp only [Pl.val, ← HVa.out, Option.bind_some]; rw [if_pos HX1.out, ← HVY.out]
      have HVAL := Lib.hid hval
      clear hval
      cases vy with
      | none =>
        obtain rfl : e = .panicked noneP := hr3
        go_wp2
        refine ⟨rfl, ?_⟩
        rw [HVAL.out]
        exact ⟨rfl, HB3.out⟩
      | some y =>
        obtain rfl : e = .returned y.agg := hr3
        obtain ⟨yk, yn, ys⟩ := y
        unfold Tm.agg
        obtain ⟨r0, r1, r2, rf0, rf1, rf2⟩ := br3.cells
        have rl := br3.lt
        go_wp2
        obtain ⟨z0, z1, z2⟩ := set3 r0 r1 r2 (.int .i64 yk) (.int .i64 yn) (.string ys)
        refine bodyPost_ret (v := .agg #[.int .i64 yk, .int .i64 yn, .string ys]) (by simp [results, Tryz.results65, go_sem, z0, z1, z2]) rfl ?_
        rw [HVAL.out]
        exact ⟨rfl, ((HB3.out.setCell (p := ⟨w.heap.size, 0, none⟩) (Nat.le_refl _) _).setCell (p := ⟨w.heap.size, 1, none⟩) (Nat.le_refl _) _).setCell (p := ⟨w.heap.size, 2, none⟩) (Nat.le_refl _) _⟩
    · have e1 : (xn == 1) = false := by simpa using hx1
      have HX1 := Lib.hid hx1
      clear hx1
      go_wp2_with fail
      have HS := Lib.hid (sk_quiet q sb d off c ts hl b (pre ++ [⟨17, tn, s⟩] ++ a.flat) (g.flat ++ post) ((pre.length : Int) + 1 + a.flat.length) ((pre.length : Int) + 1 + a.flat.length + b.flat.length) w1.drew HW.out.2.2.2.1 (by rw [HT.out]; simp [Fm.flat]) (by simp <;> omega) (by simp) (h1.below (below_drewN' (Below.refl _ _) 1) HN.out).ss)
      go_still_tail 4, (by kernel_rfl)
      still_call HS.out
      refine wpStill_nil ?_
      change wpList _ _ _ _ _ w1.drew
      go_wp2_with fail
      have h1d := h1.below (below_drewN' (Below.refl w1.heap.size w1) 1) HN.out
      refine (ig (pre ++ [⟨17, tn, s⟩] ++ a.flat ++ b.flat) post _ _ HW.out.2.2.2.2 (by rw [HT.out]; simp [Fm.flat]) (by simp <;> omega) (fun t ht => HE.out t (by simp [Fm.flat, ht])) (fun t ht => HEM.out t (by simp [Fm.flat, ht])) h1d).mono ?_
      rintro e w3 ⟨hr3, hb3⟩
      have br3 := (show Box3 w1.drew w.heap.size (.int .i64 0) (.int .i64 0) (.string ⟨#[]⟩) 48 from br1).keep hb3
      have HB3 := Lib.hid (HB1.out.trans ((below_drewN' (Below.refl w.heap.size w1) 1).trans (hb3.mono HB1.out.size)))
      obtain ⟨vy, hvy⟩ : ∃ va, va = Pl.val env g := ⟨_, rfl⟩
      rw [← hvy] at hr3
      have HVY := Lib.hid hvy
      clear hvy
      have hval : Pl.val env (.tr ⟨17, tn, s⟩ a b g) = vy := by simp only [Pl.val, ← HVa.out, Option.bind_some]; rw [if_neg HX1.out, ← HVY.out]
      have HVAL := Lib.hid hval
      clear hval
      cases vy with
      | none =>
        obtain rfl : e = .panicked noneP := hr3
        go_wp2
        refine ⟨rfl, ?_⟩
        rw [HVAL.out]
        exact ⟨rfl, HB3.out⟩
      | some y =>
        obtain rfl : e = .returned y.agg := hr3
        obtain ⟨yk, yn, ys⟩ := y
        unfold Tm.agg
        obtain ⟨r0, r1, r2, rf0, rf1, rf2⟩ := br3.cells
        have rl := br3.lt
        go_wp2
        obtain ⟨z0, z1, z2⟩ := set3 r0 r1 r2 (.int .i64 yk) (.int .i64 yn) (.string ys)
        refine bodyPost_ret (v := .agg #[.int .i64 yk, .int .i64 yn, .string ys]) (by simp [results, Tryz.results65, go_sem, z0, z1, z2]) rfl ?_
        rw [HVAL.out]
        exact ⟨rfl, ((HB3.out.setCell (p := ⟨w.heap.size, 0, none⟩) (Nat.le_refl _) _).setCell (p := ⟨w.heap.size, 1, none⟩) (Nat.le_refl _) _).setCell (p := ⟨w.heap.size, 2, none⟩) (Nat.le_refl _) _⟩
end Go.Proofs.YtchoelgkcnnnkaaGreatDoor
