/- WALK: formula.Value's closure that finds a value. Printed by genvb.py. -/
import Derived.Test.YtchoelgkcnnnkaaGreatDoorValA
set_option linter.all false
namespace Go.Proofs.YtchoelgkcnnnkaaGreatDoor
open Go.RowKit
structure VF (w : World) (q mb sb fb ob m o d off c : Nat) (ts : List Tm) (es : Array MapEntry) (clk : Nat) : Prop where
  ss : SS w q sb d off c ts
  hm : w.cell? ⟨mb, 0, none⟩ = some (.map (some m))
  hmb : w.heap[m]? = some (.map es clk)
  hf : w.cell? ⟨fb, 0, none⟩ = some (.func (.func 65) #[] #[.pointer (some ⟨q, 0, none⟩), .pointer (some ⟨mb, 0, none⟩), .pointer (some ⟨sb, 0, none⟩), .pointer (some ⟨fb, 0, none⟩), .pointer (some ⟨ob, 0, none⟩)])
  ho : w.cell? ⟨ob, 0, none⟩ = some (.map (some o))
  hob : w.heap[o]? = some (.map ops12.toArray 12)
theorem VF.below {w w' : World} {q mb sb fb ob m o d off c : Nat} {ts : List Tm} {es : Array MapEntry} {clk : Nat} (h : VF w q mb sb fb ob m o d off c ts es clk) (hb : Below w.heap.size w w') (hne : ts ≠ []) : VF w' q mb sb fb ob m o d off c ts es clk :=
  { ss := h.ss.below hb hne
    hm := (hb.cell (p := ⟨mb, 0, none⟩) (lt_of_cell h.hm)).trans h.hm
    hmb := (hb.block _ (Array.getElem?_eq_some_iff.1 h.hmb).1).trans h.hmb
    hf := (hb.cell (p := ⟨fb, 0, none⟩) (lt_of_cell h.hf)).trans h.hf
    ho := (hb.cell (p := ⟨ob, 0, none⟩) (lt_of_cell h.ho)).trans h.ho
    hob := (hb.block _ (Array.getElem?_eq_some_iff.1 h.hob).1).trans h.hob }
/-- Every name of a formula is found in the map, with its value. -/
def EnvMap (es : Array MapEntry) (env : ByteArray → Tm) (f : Fm) : Prop := ∀ t ∈ f.flat, t.k = 4 → ∃ i, Instr.findNow .string (.string t.s) es.toList 0 = some (some (i, (env t.s).agg))
theorem sk_quiet (q sb d off c : Nat) (ts : List Tm) (hl : ts.length ≤ 60) (f : Fm) (pre post : List Tm) (i r : Int) (w : World) (hw : f.wf) (ht : ts = pre ++ (f.flat ++ post)) (hi : i = (pre.length : Int)) (hr : r = i + f.flat.length) (h : SS w q sb d off c ts) :
    Calls Tryz.prog 64 #[.int .i64 i, .pointer (some ⟨q, 0, none⟩), .pointer (some ⟨sb, 0, none⟩)] w fun e w' => e = .returned (.int .i64 r) ∧ w' = w := by
  subst hr
  exact (sk_all q sb d off c ts hl f pre post i w hw ht hi h).mono fun _ _ ⟨h1, h2⟩ => ⟨h1, h2.symm⟩
def Fd (q mb sb fb ob m o d off c : Nat) (ts : List Tm) (es : Array MapEntry) (clk : Nat) (env : ByteArray → Tm) (f : Fm) : Prop :=
  ∀ (pre post : List Tm) (i : Int) (w : World), f.wf → ts = pre ++ (f.flat ++ post) → i = (pre.length : Int) → Pl.EnvOk env f → EnvMap es env f → VF w q mb sb fb ob m o d off c ts es clk →
    Calls Tryz.prog 65 #[.int .i64 i, .pointer (some ⟨q, 0, none⟩), .pointer (some ⟨mb, 0, none⟩), .pointer (some ⟨sb, 0, none⟩), .pointer (some ⟨fb, 0, none⟩), .pointer (some ⟨ob, 0, none⟩)] w (OpPost (Pl.val env f) w)
/-- A box of three cells. -/
def Box3 (w : World) (n : Nat) (a b c : Value) (T : TypeId) : Prop := w.heap[n]? = some (.cells #[a, b, c] T (0, 0))
theorem Box3.keep {W w' : World} {n : Nat} {a b c : Value} {T : TypeId} (h : Box3 W n a b c T) (hb : Below W.heap.size W w') : Box3 w' n a b c T :=
  (hb.block _ (Array.getElem?_eq_some_iff.1 h).1).trans h
theorem Box3.cells {W : World} {n : Nat} {a b c : Value} {T : TypeId} (h : Box3 W n a b c T) :
    W.cell? ⟨n, 0, none⟩ = some a ∧ W.cell? ⟨n, 1, none⟩ = some b ∧ W.cell? ⟨n, 2, none⟩ = some c ∧ W.frozen? ⟨n, 0, none⟩ = false ∧ W.frozen? ⟨n, 1, none⟩ = false ∧ W.frozen? ⟨n, 2, none⟩ = false := by
  refine ⟨?_, ?_, ?_, Lib.frozen_of_heap h 0, Lib.frozen_of_heap h 1, Lib.frozen_of_heap h 2⟩ <;> (rw [Lib.cell_of_heap h]; rfl)
theorem Box3.new (w : World) (a b c : Value) (T : TypeId) : Box3 (w.alloc (.cells #[a, b, c] T)) w.heap.size a b c T := (MapKept.heap_alloc w _).1
theorem Box3.lt {W : World} {n : Nat} {a b c : Value} {T : TypeId} (h : Box3 W n a b c T) : n < W.heap.size := (Array.getElem?_eq_some_iff.1 h).1
theorem below2 (w : World) (o1 o2 : Obj) : Below w.heap.size w ((w.alloc o1).alloc o2) := (below1 w o1).trans ((below1 _ _).mono (by simp))
theorem validValue_is (v : Tm) (r : Bool) (w : World) (h : Hid (r = Pl.validV v)) :
    Calls Tryz.prog 30 #[v.agg] w fun e w' => e = .returned (.bool r) ∧ Below w.heap.size w w' := by
  rw [h.out]; exact validValue_any v w
set_option maxRecDepth 100000 in
set_option maxHeartbeats 2000000 in
theorem fd_leaf1 (q mb sb fb ob m o d off c : Nat) (ts : List Tm) (es : Array MapEntry) (clk : Nat) (env : ByteArray → Tm) (hl : ts.length ≤ 60) (t : Tm) (ht : t.k = 1) : Fd q mb sb fb ob m o d off c ts es clk env (.lf t) := by
  intro pre post i w hwf hts hi he hem h
  have hget := mid_get (t := t) (post := post) (by simpa [Fm.flat] using hts)
  have hlt : pre.length < ts.length := (List.getElem?_eq_some_iff.1 hget).1
  have hne : ts ≠ [] := by intro e; rw [e] at hlt; simp at hlt
  obtain ⟨m0, m1, m2, m3⟩ := h.ss.row pre.length t hget
  have uu := And.intro hl hl
  clear uu
  have hv := h.ss.hv
  have hcap := h.ss.cap
  have hdl := lt_of_cell m0
  have hql := lt_of_cell hv
  have H := Lib.hid h
  have HT := Lib.hid hts
  have HW := Lib.hid hwf
  have HE := Lib.hid he
  have HEM := Lib.hid hem
  have HN := Lib.hid hne
  have hval : Pl.val env (.lf t) = some t := by simp [Pl.val, ht]
  rw [hval]
  obtain ⟨k, tn, s⟩ := t
  simp only at *
  subst ht hi
  clear h hts hwf he hem m3 hget hne
  go_enter Tryz.func65, Tryz.ntmps65
  go_wp2_with fail
  exact bodyPost_ret (v := .agg #[.int .i64 1, .int .i64 tn, .string s]) (by simp [results, Tryz.results65, go_sem]) rfl ⟨rfl, (below1 w _).trans ((below1 _ _).mono (by simp))⟩
set_option maxRecDepth 100000 in
set_option maxHeartbeats 2000000 in
theorem fd_leaf2 (q mb sb fb ob m o d off c : Nat) (ts : List Tm) (es : Array MapEntry) (clk : Nat) (env : ByteArray → Tm) (hl : ts.length ≤ 60) (t : Tm) (ht : t.k = 2) : Fd q mb sb fb ob m o d off c ts es clk env (.lf t) := by
  intro pre post i w hwf hts hi he hem h
  have hget := mid_get (t := t) (post := post) (by simpa [Fm.flat] using hts)
  have hlt : pre.length < ts.length := (List.getElem?_eq_some_iff.1 hget).1
  have hne : ts ≠ [] := by intro e; rw [e] at hlt; simp at hlt
  obtain ⟨m0, m1, m2, m3⟩ := h.ss.row pre.length t hget
  have uu := And.intro hl hl
  clear uu
  have hv := h.ss.hv
  have hcap := h.ss.cap
  have hdl := lt_of_cell m0
  have hql := lt_of_cell hv
  have H := Lib.hid h
  have HT := Lib.hid hts
  have HW := Lib.hid hwf
  have HE := Lib.hid he
  have HEM := Lib.hid hem
  have HN := Lib.hid hne
  have hval : Pl.val env (.lf t) = some t := by simp [Pl.val, ht]
  rw [hval]
  obtain ⟨k, tn, s⟩ := t
  simp only at *
  subst ht hi
  clear h hts hwf he hem m3 hget hne
  go_enter Tryz.func65, Tryz.ntmps65
  go_wp2_with fail
  exact bodyPost_ret (v := .agg #[.int .i64 2, .int .i64 tn, .string s]) (by simp [results, Tryz.results65, go_sem]) rfl ⟨rfl, (below1 w _).trans ((below1 _ _).mono (by simp))⟩
set_option maxRecDepth 100000 in
set_option maxHeartbeats 2000000 in
theorem fd_leaf3 (q mb sb fb ob m o d off c : Nat) (ts : List Tm) (es : Array MapEntry) (clk : Nat) (env : ByteArray → Tm) (hl : ts.length ≤ 60) (t : Tm) (ht : t.k = 3) : Fd q mb sb fb ob m o d off c ts es clk env (.lf t) := by
  intro pre post i w hwf hts hi he hem h
  have hget := mid_get (t := t) (post := post) (by simpa [Fm.flat] using hts)
  have hlt : pre.length < ts.length := (List.getElem?_eq_some_iff.1 hget).1
  have hne : ts ≠ [] := by intro e; rw [e] at hlt; simp at hlt
  obtain ⟨m0, m1, m2, m3⟩ := h.ss.row pre.length t hget
  have uu := And.intro hl hl
  clear uu
  have hv := h.ss.hv
  have hcap := h.ss.cap
  have hdl := lt_of_cell m0
  have hql := lt_of_cell hv
  have H := Lib.hid h
  have HT := Lib.hid hts
  have HW := Lib.hid hwf
  have HE := Lib.hid he
  have HEM := Lib.hid hem
  have HN := Lib.hid hne
  have hval : Pl.val env (.lf t) = some t := by simp [Pl.val, ht]
  rw [hval]
  obtain ⟨k, tn, s⟩ := t
  simp only at *
  subst ht hi
  clear h hts hwf he hem m3 hget hne
  go_enter Tryz.func65, Tryz.ntmps65
  go_wp2_with fail
  exact bodyPost_ret (v := .agg #[.int .i64 3, .int .i64 tn, .string s]) (by simp [results, Tryz.results65, go_sem]) rfl ⟨rfl, (below1 w _).trans ((below1 _ _).mono (by simp))⟩
set_option maxRecDepth 100000 in
set_option maxHeartbeats 2000000 in
theorem fd_leaf4 (q mb sb fb ob m o d off c : Nat) (ts : List Tm) (es : Array MapEntry) (clk : Nat) (env : ByteArray → Tm) (hl : ts.length ≤ 60) (t : Tm) (ht : t.k = 4) : Fd q mb sb fb ob m o d off c ts es clk env (.lf t) := by
  intro pre post i w hwf hts hi he hem h
  have hget := mid_get (t := t) (post := post) (by simpa [Fm.flat] using hts)
  have hlt : pre.length < ts.length := (List.getElem?_eq_some_iff.1 hget).1
  have hne : ts ≠ [] := by intro e; rw [e] at hlt; simp at hlt
  obtain ⟨m0, m1, m2, m3⟩ := h.ss.row pre.length t hget
  have uu := And.intro hl hl
  clear uu
  have hv := h.ss.hv
  have hcap := h.ss.cap
  have hdl := lt_of_cell m0
  have hql := lt_of_cell hv
  have H := Lib.hid h
  have HT := Lib.hid hts
  have HW := Lib.hid hwf
  have HE := Lib.hid he
  have HEM := Lib.hid hem
  have HN := Lib.hid hne
  have hval : Pl.val env (.lf t) = some (env t.s) := by simp [Pl.val, ht]
  rw [hval]
  obtain ⟨ix, hix⟩ := hem t (by simp [Fm.flat]) ht
  obtain ⟨k, tn, s⟩ := t
  simp only at *
  subst ht hi
  have hm := h.hm
  have hml := lt_of_cell hm
  have hmb := h.hmb
  have hmbl := (Array.getElem?_eq_some_iff.1 hmb).1
  obtain ⟨u, hu⟩ : ∃ u, u = env s := ⟨_, rfl⟩
  rw [← hu] at hix ⊢
  clear hu
  obtain ⟨vk, vn, vs⟩ := u
  have hlk : (Instr.lookup 101 (.map (some m)) (.string s) false).run Tryz.prog ((w.alloc (.cells #[.int .i64 0, .int .i64 0, .string ⟨#[]⟩] 48)).alloc (.cells #[.int .i64 4, .int .i64 tn, .string s] 24)) = .ok (.agg #[.int .i64 vk, .int .i64 vn, .string vs]) ((w.alloc (.cells #[.int .i64 0, .int .i64 0, .string ⟨#[]⟩] 48)).alloc (.cells #[.int .i64 4, .int .i64 tn, .string s] 24)) :=
    run_get Tryz.underlying101 Tryz.underlying9 (show MapKept.IsKey .string (.string s) by simp [MapKept.IsKey]) (by rw [Lib.alloc_old _ _ _ (by simp; omega), Lib.alloc_old _ _ _ hmbl]; exact hmb) hix
  clear h hts hwf he hem m3 hget hne hmb hix
  go_enter Tryz.func65, Tryz.ntmps65
  go_wp2_with fail
  exact bodyPost_ret (v := .agg #[.int .i64 vk, .int .i64 vn, .string vs]) (by simp [results, Tryz.results65, go_sem]) rfl ⟨rfl, (below1 w _).trans ((below1 _ _).mono (by simp))⟩
set_option maxRecDepth 100000 in
set_option maxHeartbeats 2000000 in
theorem fd_un5 (q mb sb fb ob m o d off c : Nat) (ts : List Tm) (es : Array MapEntry) (clk : Nat) (env : ByteArray → Tm) (hl : ts.length ≤ 60) (t : Tm) (a : Fm) (ht : t.k = 5) (ia : Fd q mb sb fb ob m o d off c ts es clk env a) : Fd q mb sb fb ob m o d off c ts es clk env (.un t a) := by
  intro pre post i w hwf hts hi he hem h
  have hget := mid_get (t := t) (post := a.flat ++ post) (by simpa [Fm.flat] using hts)
  have hlt : pre.length < ts.length := (List.getElem?_eq_some_iff.1 hget).1
  have hne : ts ≠ [] := by intro e; rw [e] at hlt; simp at hlt
  obtain ⟨m0, m1, m2, m3⟩ := h.ss.row pre.length t hget
  have uu := And.intro hl hl
  clear uu
  have hv := h.ss.hv
  have hcap := h.ss.cap
  have hdl := lt_of_cell m0
  have hql := lt_of_cell hv
  have H := Lib.hid h
  have HT := Lib.hid hts
  have HW := Lib.hid hwf
  have HE := Lib.hid he
  have HEM := Lib.hid hem
  have HN := Lib.hid hne
  obtain ⟨k, tn, s⟩ := t
  simp only at *
  subst ht hi
  have hff := h.hf
  have hfl := lt_of_cell hff
  have hol := lt_of_cell h.ho
  have hsl := lt_of_cell h.ss.hs
  clear h hts hwf he hem m3 hget hne
  go_enter Tryz.func65, Tryz.ntmps65
  go_wp2_with fail
  have hb0 := below2 w (.cells #[.int .i64 0, .int .i64 0, .string ⟨#[]⟩] 48) (.cells #[.int .i64 5, .int .i64 tn, .string s] 24)
  have h0 := H.out.below hb0 HN.out
  have br : Box3 ((w.alloc (.cells #[.int .i64 0, .int .i64 0, .string ⟨#[]⟩] 48)).alloc (.cells #[.int .i64 5, .int .i64 tn, .string s] 24)) w.heap.size (.int .i64 0) (.int .i64 0) (.string ⟨#[]⟩) 48 := (Box3.new w _ _ _ _).keep (below1 _ _)
  have bt : Box3 ((w.alloc (.cells #[.int .i64 0, .int .i64 0, .string ⟨#[]⟩] 48)).alloc (.cells #[.int .i64 5, .int .i64 tn, .string s] 24)) (w.heap.size + 1) (.int .i64 5) (.int .i64 tn) (.string s) 24 := by
    have := Box3.new (w.alloc (.cells #[.int .i64 0, .int .i64 0, .string ⟨#[]⟩] 48)) (.int .i64 5) (.int .i64 tn) (.string s) 24
    simpa using this
  generalize ((w.alloc (.cells #[.int .i64 0, .int .i64 0, .string ⟨#[]⟩] 48)).alloc (.cells #[.int .i64 5, .int .i64 tn, .string s] 24)) = w0 at hb0 h0 br bt ⊢
  refine (ia (pre ++ [⟨5, tn, s⟩]) (post) _ _ HW.out.2.2 (by rw [HT.out]; simp [Fm.flat]) (by simp <;> omega) (fun t ht => HE.out t (by simp [Fm.flat, ht])) (fun t ht => HEM.out t (by simp [Fm.flat, ht])) h0).mono ?_
  rintro e w1 ⟨hr, hb1⟩
  have h1 := h0.below hb1 HN.out
  have br1 := br.keep hb1
  have bt1 := bt.keep hb1
  have HB1 := Lib.hid (hb0.trans (hb1.mono hb0.size))
  obtain ⟨va, hva⟩ : ∃ va, va = Pl.val env a := ⟨_, rfl⟩
  rw [← hva] at hr
  have HVa := Lib.hid hva
  clear hva
  cases va with
  | none =>
    obtain rfl : e = .panicked noneP := hr
    go_wp2
    refine ⟨rfl, ?_⟩
    have hval : Pl.val env (.un ⟨5, tn, s⟩ a) = none := by simp only [Pl.val, ← HVa.out, Option.bind_none]
    rw [hval]
    exact ⟨rfl, HB1.out⟩
  | some x =>
    have HX := Lib.hid (small_of_valid (Pl.val_valid a x HW.out.2.2 (fun t ht => HE.out t (by simp [Fm.flat, ht])) HVa.out.symm))
    obtain rfl : e = .returned x.agg := hr
    obtain ⟨xk, xn, xs⟩ := x
    unfold Tm.agg
    have hb2 := below2 w1 (.cells #[.int .i64 xk, .int .i64 xn, .string xs] 48) (.cells #[.int .i64 0, .int .i64 0, .string ⟨#[]⟩] 48)
    have h2 := h1.below hb2 HN.out
    have br2 := br1.keep hb2
    have bt2 := bt1.keep hb2
    have HB2 := Lib.hid (HB1.out.trans (hb2.mono HB1.out.size))
    clear hb2
    obtain ⟨t0, t1, t2, tf0, tf1, tf2⟩ := bt1.cells
    have tl := bt1.lt
    obtain ⟨r0, r1, r2, rf0, rf1, rf2⟩ := br1.cells
    have rl := br1.lt
    have ho2 := h1.ho
    have hol2 := lt_of_cell ho2
    have hlk : (Instr.lookup 105 (.map (some o)) (.int .i64 5) false).run Tryz.prog ((w1.alloc (.cells #[.int .i64 xk, .int .i64 xn, .string xs] 48)).alloc (.cells #[.int .i64 0, .int .i64 0, .string ⟨#[]⟩] 48)) = .ok (.func (.func 100) #[] #[]) ((w1.alloc (.cells #[.int .i64 xk, .int .i64 xn, .string xs] 48)).alloc (.cells #[.int .i64 0, .int .i64 0, .string ⟨#[]⟩] 48)) :=
      run_get Tryz.underlying105 Tryz.underlying3 (show MapKept.IsKey (.int .i64) (.int .i64 5) by simp [MapKept.IsKey]) h2.hob (i := 0) rfl
    go_wp2_with (go_at_call 49; refine (operands_is 5 1 _ (Lib.hid rfl)).mono ?_; rintro e w' ⟨rfl, rfl⟩)
    clear hlk t0 t1 t2 tf0 tf1 tf2 tl r0 r1 r2 rf0 rf1 rf2 rl
    refine (show Calls Tryz.prog 100 #[.agg #[.int .i64 xk, .int .i64 xn, .string xs], .agg #[.int .i64 0, .int .i64 0, .string ⟨#[]⟩]] _ (OpPost (Pl.opOf 5 ⟨xk, xn, xs⟩ Pl.zeroV) _) from op_any 5 (by decide) (by decide) ⟨xk, xn, xs⟩ Pl.zeroV _ HX.out small_zero).mono ?_
    rintro e w3 ⟨hr3, hb3⟩
    have h3 := h2.below hb3 HN.out
    have br3 := br2.keep hb3
    have HB3 := Lib.hid (HB2.out.trans (hb3.mono HB2.out.size))
    obtain ⟨vo, hvo⟩ : ∃ vo, vo = Pl.opOf 5 ⟨xk, xn, xs⟩ Pl.zeroV := ⟨_, rfl⟩
    rw [← hvo] at hr3
    have HVO := Lib.hid hvo
    clear hvo hb3
    obtain ⟨r0, r1, r2, rf0, rf1, rf2⟩ := br3.cells
    have rl := br3.lt
    cases vo with
    | none =>
      obtain rfl : e = .panicked noneP := hr3
      go_wp2
      refine ⟨rfl, ?_⟩
      have hval : Pl.val env (.un ⟨5, tn, s⟩ a) = (Pl.opOf 5 ⟨xk, xn, xs⟩ Pl.zeroV).bind fun v => if Pl.validV v = true then some v else none := by
        simp only [Pl.val, ← HVa.out, Option.bind_some, Pl.app]
      rw [hval]
      rw [← HVO.out]
      exact ⟨rfl, HB3.out⟩
    | some u =>
      obtain rfl : e = .returned u.agg := hr3
      obtain ⟨uk, un, us⟩ := u
      unfold Tm.agg
      obtain ⟨vb, hvb⟩ : ∃ vb, vb = Pl.validV ⟨uk, un, us⟩ := ⟨_, rfl⟩
      have HVB := Lib.hid hvb
      clear hvb
      have br4 := br3.keep (below1 w3 (.cells #[.int .i64 uk, .int .i64 un, .string us] 48))
      have HB4 := Lib.hid (HB3.out.trans ((below1 w3 (.cells #[.int .i64 uk, .int .i64 un, .string us] 48)).mono HB3.out.size))
      have bu4 := Box3.new w3 (.int .i64 uk) (.int .i64 un) (.string us) 48
      go_wp2_with fail
      refine (show Calls Tryz.prog 30 #[.agg #[.int .i64 uk, .int .i64 un, .string us]] (w3.alloc (.cells #[.int .i64 uk, .int .i64 un, .string us] 48)) _ from validValue_is ⟨uk, un, us⟩ vb _ HVB).mono ?_
      rintro e w5 ⟨rfl, hb5⟩
      have br5 := br4.keep hb5
      have bu5 := bu4.keep hb5
      have HB5 := Lib.hid (HB4.out.trans (hb5.mono HB4.out.size))
      clear hb5 r0 r1 r2 rf0 rf1 rf2 rl
      obtain ⟨r0, r1, r2, rf0, rf1, rf2⟩ := br5.cells
      have rl := br5.lt
      obtain ⟨u0, u1, u2, uf0, uf1, uf2⟩ := bu5.cells
      have ul := bu5.lt
      cases vb with
      | true =>
        go_wp2
        obtain ⟨z0, z1, z2⟩ := set3 r0 r1 r2 (.int .i64 uk) (.int .i64 un) (.string us)
        refine bodyPost_ret (v := .agg #[.int .i64 uk, .int .i64 un, .string us]) (by simp [results, Tryz.results65, go_sem, z0, z1, z2]) rfl ?_
        have hval : Pl.val env (.un ⟨5, tn, s⟩ a) = (Pl.opOf 5 ⟨xk, xn, xs⟩ Pl.zeroV).bind fun v => if Pl.validV v = true then some v else none := by
          simp only [Pl.val, ← HVa.out, Option.bind_some, Pl.app]
        rw [hval]
        rw [← HVO.out]
        simp only [Option.bind_some]
        rw [if_pos HVB.out.symm]
        exact ⟨rfl, ((HB5.out.setCell (p := ⟨w.heap.size, 0, none⟩) (Nat.le_refl _) _).setCell (p := ⟨w.heap.size, 1, none⟩) (Nat.le_refl _) _).setCell (p := ⟨w.heap.size, 2, none⟩) (Nat.le_refl _) _⟩
      | false =>
        go_wp2
        refine ⟨rfl, ?_⟩
        have hval : Pl.val env (.un ⟨5, tn, s⟩ a) = (Pl.opOf 5 ⟨xk, xn, xs⟩ Pl.zeroV).bind fun v => if Pl.validV v = true then some v else none := by
          simp only [Pl.val, ← HVa.out, Option.bind_some, Pl.app]
        rw [hval]
        rw [← HVO.out]
        simp only [Option.bind_some]
        rw [if_neg (by rw [← HVB.out]; decide)]
        exact ⟨rfl, HB5.out⟩
set_option maxRecDepth 100000 in
set_option maxHeartbeats 2000000 in
theorem fd_un6 (q mb sb fb ob m o d off c : Nat) (ts : List Tm) (es : Array MapEntry) (clk : Nat) (env : ByteArray → Tm) (hl : ts.length ≤ 60) (t : Tm) (a : Fm) (ht : t.k = 6) (ia : Fd q mb sb fb ob m o d off c ts es clk env a) : Fd q mb sb fb ob m o d off c ts es clk env (.un t a) := by
  intro pre post i w hwf hts hi he hem h
  have hget := mid_get (t := t) (post := a.flat ++ post) (by simpa [Fm.flat] using hts)
  have hlt : pre.length < ts.length := (List.getElem?_eq_some_iff.1 hget).1
  have hne : ts ≠ [] := by intro e; rw [e] at hlt; simp at hlt
  obtain ⟨m0, m1, m2, m3⟩ := h.ss.row pre.length t hget
  have uu := And.intro hl hl
  clear uu
  have hv := h.ss.hv
  have hcap := h.ss.cap
  have hdl := lt_of_cell m0
  have hql := lt_of_cell hv
  have H := Lib.hid h
  have HT := Lib.hid hts
  have HW := Lib.hid hwf
  have HE := Lib.hid he
  have HEM := Lib.hid hem
  have HN := Lib.hid hne
  obtain ⟨k, tn, s⟩ := t
  simp only at *
  subst ht hi
  have hff := h.hf
  have hfl := lt_of_cell hff
  have hol := lt_of_cell h.ho
  have hsl := lt_of_cell h.ss.hs
  clear h hts hwf he hem m3 hget hne
  go_enter Tryz.func65, Tryz.ntmps65
  go_wp2_with fail
  have hb0 := below2 w (.cells #[.int .i64 0, .int .i64 0, .string ⟨#[]⟩] 48) (.cells #[.int .i64 6, .int .i64 tn, .string s] 24)
  have h0 := H.out.below hb0 HN.out
  have br : Box3 ((w.alloc (.cells #[.int .i64 0, .int .i64 0, .string ⟨#[]⟩] 48)).alloc (.cells #[.int .i64 6, .int .i64 tn, .string s] 24)) w.heap.size (.int .i64 0) (.int .i64 0) (.string ⟨#[]⟩) 48 := (Box3.new w _ _ _ _).keep (below1 _ _)
  have bt : Box3 ((w.alloc (.cells #[.int .i64 0, .int .i64 0, .string ⟨#[]⟩] 48)).alloc (.cells #[.int .i64 6, .int .i64 tn, .string s] 24)) (w.heap.size + 1) (.int .i64 6) (.int .i64 tn) (.string s) 24 := by
    have := Box3.new (w.alloc (.cells #[.int .i64 0, .int .i64 0, .string ⟨#[]⟩] 48)) (.int .i64 6) (.int .i64 tn) (.string s) 24
    simpa using this
  generalize ((w.alloc (.cells #[.int .i64 0, .int .i64 0, .string ⟨#[]⟩] 48)).alloc (.cells #[.int .i64 6, .int .i64 tn, .string s] 24)) = w0 at hb0 h0 br bt ⊢
  refine (ia (pre ++ [⟨6, tn, s⟩]) (post) _ _ HW.out.2.2 (by rw [HT.out]; simp [Fm.flat]) (by simp <;> omega) (fun t ht => HE.out t (by simp [Fm.flat, ht])) (fun t ht => HEM.out t (by simp [Fm.flat, ht])) h0).mono ?_
  rintro e w1 ⟨hr, hb1⟩
  have h1 := h0.below hb1 HN.out
  have br1 := br.keep hb1
  have bt1 := bt.keep hb1
  have HB1 := Lib.hid (hb0.trans (hb1.mono hb0.size))
  obtain ⟨va, hva⟩ : ∃ va, va = Pl.val env a := ⟨_, rfl⟩
  rw [← hva] at hr
  have HVa := Lib.hid hva
  clear hva
  cases va with
  | none =>
    obtain rfl : e = .panicked noneP := hr
    go_wp2
    refine ⟨rfl, ?_⟩
    have hval : Pl.val env (.un ⟨6, tn, s⟩ a) = none := by simp only [Pl.val, ← HVa.out, Option.bind_none]
    rw [hval]
    exact ⟨rfl, HB1.out⟩
  | some x =>
    have HX := Lib.hid (small_of_valid (Pl.val_valid a x HW.out.2.2 (fun t ht => HE.out t (by simp [Fm.flat, ht])) HVa.out.symm))
    obtain rfl : e = .returned x.agg := hr
    obtain ⟨xk, xn, xs⟩ := x
    unfold Tm.agg
    have hb2 := below2 w1 (.cells #[.int .i64 xk, .int .i64 xn, .string xs] 48) (.cells #[.int .i64 0, .int .i64 0, .string ⟨#[]⟩] 48)
    have h2 := h1.below hb2 HN.out
    have br2 := br1.keep hb2
    have bt2 := bt1.keep hb2
    have HB2 := Lib.hid (HB1.out.trans (hb2.mono HB1.out.size))
    clear hb2
    obtain ⟨t0, t1, t2, tf0, tf1, tf2⟩ := bt1.cells
    have tl := bt1.lt
    obtain ⟨r0, r1, r2, rf0, rf1, rf2⟩ := br1.cells
    have rl := br1.lt
    have ho2 := h1.ho
    have hol2 := lt_of_cell ho2
    have hlk : (Instr.lookup 105 (.map (some o)) (.int .i64 6) false).run Tryz.prog ((w1.alloc (.cells #[.int .i64 xk, .int .i64 xn, .string xs] 48)).alloc (.cells #[.int .i64 0, .int .i64 0, .string ⟨#[]⟩] 48)) = .ok (.func (.func 102) #[] #[]) ((w1.alloc (.cells #[.int .i64 xk, .int .i64 xn, .string xs] 48)).alloc (.cells #[.int .i64 0, .int .i64 0, .string ⟨#[]⟩] 48)) :=
      run_get Tryz.underlying105 Tryz.underlying3 (show MapKept.IsKey (.int .i64) (.int .i64 6) by simp [MapKept.IsKey]) h2.hob (i := 1) rfl
    go_wp2_with (go_at_call 49; refine (operands_is 6 1 _ (Lib.hid rfl)).mono ?_; rintro e w' ⟨rfl, rfl⟩)
    clear hlk t0 t1 t2 tf0 tf1 tf2 tl r0 r1 r2 rf0 rf1 rf2 rl
    refine (show Calls Tryz.prog 102 #[.agg #[.int .i64 xk, .int .i64 xn, .string xs], .agg #[.int .i64 0, .int .i64 0, .string ⟨#[]⟩]] _ (OpPost (Pl.opOf 6 ⟨xk, xn, xs⟩ Pl.zeroV) _) from op_any 6 (by decide) (by decide) ⟨xk, xn, xs⟩ Pl.zeroV _ HX.out small_zero).mono ?_
    rintro e w3 ⟨hr3, hb3⟩
    have h3 := h2.below hb3 HN.out
    have br3 := br2.keep hb3
    have HB3 := Lib.hid (HB2.out.trans (hb3.mono HB2.out.size))
    obtain ⟨vo, hvo⟩ : ∃ vo, vo = Pl.opOf 6 ⟨xk, xn, xs⟩ Pl.zeroV := ⟨_, rfl⟩
    rw [← hvo] at hr3
    have HVO := Lib.hid hvo
    clear hvo hb3
    obtain ⟨r0, r1, r2, rf0, rf1, rf2⟩ := br3.cells
    have rl := br3.lt
    cases vo with
    | none =>
      obtain rfl : e = .panicked noneP := hr3
      go_wp2
      refine ⟨rfl, ?_⟩
      have hval : Pl.val env (.un ⟨6, tn, s⟩ a) = (Pl.opOf 6 ⟨xk, xn, xs⟩ Pl.zeroV).bind fun v => if Pl.validV v = true then some v else none := by
        simp only [Pl.val, ← HVa.out, Option.bind_some, Pl.app]
      rw [hval]
      rw [← HVO.out]
      exact ⟨rfl, HB3.out⟩
    | some u =>
      obtain rfl : e = .returned u.agg := hr3
      obtain ⟨uk, un, us⟩ := u
      unfold Tm.agg
      obtain ⟨vb, hvb⟩ : ∃ vb, vb = Pl.validV ⟨uk, un, us⟩ := ⟨_, rfl⟩
      have HVB := Lib.hid hvb
      clear hvb
      have br4 := br3.keep (below1 w3 (.cells #[.int .i64 uk, .int .i64 un, .string us] 48))
      have HB4 := Lib.hid (HB3.out.trans ((below1 w3 (.cells #[.int .i64 uk, .int .i64 un, .string us] 48)).mono HB3.out.size))
      have bu4 := Box3.new w3 (.int .i64 uk) (.int .i64 un) (.string us) 48
      go_wp2_with fail
      refine (show Calls Tryz.prog 30 #[.agg #[.int .i64 uk, .int .i64 un, .string us]] (w3.alloc (.cells #[.int .i64 uk, .int .i64 un, .string us] 48)) _ from validValue_is ⟨uk, un, us⟩ vb _ HVB).mono ?_
      rintro e w5 ⟨rfl, hb5⟩
      have br5 := br4.keep hb5
      have bu5 := bu4.keep hb5
      have HB5 := Lib.hid (HB4.out.trans (hb5.mono HB4.out.size))
      clear hb5 r0 r1 r2 rf0 rf1 rf2 rl
      obtain ⟨r0, r1, r2, rf0, rf1, rf2⟩ := br5.cells
      have rl := br5.lt
      obtain ⟨u0, u1, u2, uf0, uf1, uf2⟩ := bu5.cells
      have ul := bu5.lt
      cases vb with
      | true =>
        go_wp2
        obtain ⟨z0, z1, z2⟩ := set3 r0 r1 r2 (.int .i64 uk) (.int .i64 un) (.string us)
        refine bodyPost_ret (v := .agg #[.int .i64 uk, .int .i64 un, .string us]) (by simp [results, Tryz.results65, go_sem, z0, z1, z2]) rfl ?_
        have hval : Pl.val env (.un ⟨6, tn, s⟩ a) = (Pl.opOf 6 ⟨xk, xn, xs⟩ Pl.zeroV).bind fun v => if Pl.validV v = true then some v else none := by
          simp only [Pl.val, ← HVa.out, Option.bind_some, Pl.app]
        rw [hval]
        rw [← HVO.out]
        simp only [Option.bind_some]
        rw [if_pos HVB.out.symm]
        exact ⟨rfl, ((HB5.out.setCell (p := ⟨w.heap.size, 0, none⟩) (Nat.le_refl _) _).setCell (p := ⟨w.heap.size, 1, none⟩) (Nat.le_refl _) _).setCell (p := ⟨w.heap.size, 2, none⟩) (Nat.le_refl _) _⟩
      | false =>
        go_wp2
        refine ⟨rfl, ?_⟩
        have hval : Pl.val env (.un ⟨6, tn, s⟩ a) = (Pl.opOf 6 ⟨xk, xn, xs⟩ Pl.zeroV).bind fun v => if Pl.validV v = true then some v else none := by
          simp only [Pl.val, ← HVa.out, Option.bind_some, Pl.app]
        rw [hval]
        rw [← HVO.out]
        simp only [Option.bind_some]
        rw [if_neg (by rw [← HVB.out]; decide)]
        exact ⟨rfl, HB5.out⟩
set_option maxRecDepth 100000 in
set_option maxHeartbeats 2000000 in
theorem fd_un7 (q mb sb fb ob m o d off c : Nat) (ts : List Tm) (es : Array MapEntry) (clk : Nat) (env : ByteArray → Tm) (hl : ts.length ≤ 60) (t : Tm) (a : Fm) (ht : t.k = 7) (ia : Fd q mb sb fb ob m o d off c ts es clk env a) : Fd q mb sb fb ob m o d off c ts es clk env (.un t a) := by
  intro pre post i w hwf hts hi he hem h
  have hget := mid_get (t := t) (post := a.flat ++ post) (by simpa [Fm.flat] using hts)
  have hlt : pre.length < ts.length := (List.getElem?_eq_some_iff.1 hget).1
  have hne : ts ≠ [] := by intro e; rw [e] at hlt; simp at hlt
  obtain ⟨m0, m1, m2, m3⟩ := h.ss.row pre.length t hget
  have uu := And.intro hl hl
  clear uu
  have hv := h.ss.hv
  have hcap := h.ss.cap
  have hdl := lt_of_cell m0
  have hql := lt_of_cell hv
  have H := Lib.hid h
  have HT := Lib.hid hts
  have HW := Lib.hid hwf
  have HE := Lib.hid he
  have HEM := Lib.hid hem
  have HN := Lib.hid hne
  obtain ⟨k, tn, s⟩ := t
  simp only at *
  subst ht hi
  have hff := h.hf
  have hfl := lt_of_cell hff
  have hol := lt_of_cell h.ho
  have hsl := lt_of_cell h.ss.hs
  clear h hts hwf he hem m3 hget hne
  go_enter Tryz.func65, Tryz.ntmps65
  go_wp2_with fail
  have hb0 := below2 w (.cells #[.int .i64 0, .int .i64 0, .string ⟨#[]⟩] 48) (.cells #[.int .i64 7, .int .i64 tn, .string s] 24)
  have h0 := H.out.below hb0 HN.out
  have br : Box3 ((w.alloc (.cells #[.int .i64 0, .int .i64 0, .string ⟨#[]⟩] 48)).alloc (.cells #[.int .i64 7, .int .i64 tn, .string s] 24)) w.heap.size (.int .i64 0) (.int .i64 0) (.string ⟨#[]⟩) 48 := (Box3.new w _ _ _ _).keep (below1 _ _)
  have bt : Box3 ((w.alloc (.cells #[.int .i64 0, .int .i64 0, .string ⟨#[]⟩] 48)).alloc (.cells #[.int .i64 7, .int .i64 tn, .string s] 24)) (w.heap.size + 1) (.int .i64 7) (.int .i64 tn) (.string s) 24 := by
    have := Box3.new (w.alloc (.cells #[.int .i64 0, .int .i64 0, .string ⟨#[]⟩] 48)) (.int .i64 7) (.int .i64 tn) (.string s) 24
    simpa using this
  generalize ((w.alloc (.cells #[.int .i64 0, .int .i64 0, .string ⟨#[]⟩] 48)).alloc (.cells #[.int .i64 7, .int .i64 tn, .string s] 24)) = w0 at hb0 h0 br bt ⊢
  refine (ia (pre ++ [⟨7, tn, s⟩]) (post) _ _ HW.out.2.2 (by rw [HT.out]; simp [Fm.flat]) (by simp <;> omega) (fun t ht => HE.out t (by simp [Fm.flat, ht])) (fun t ht => HEM.out t (by simp [Fm.flat, ht])) h0).mono ?_
  rintro e w1 ⟨hr, hb1⟩
  have h1 := h0.below hb1 HN.out
  have br1 := br.keep hb1
  have bt1 := bt.keep hb1
  have HB1 := Lib.hid (hb0.trans (hb1.mono hb0.size))
  obtain ⟨va, hva⟩ : ∃ va, va = Pl.val env a := ⟨_, rfl⟩
  rw [← hva] at hr
  have HVa := Lib.hid hva
  clear hva
  cases va with
  | none =>
    obtain rfl : e = .panicked noneP := hr
    go_wp2
    refine ⟨rfl, ?_⟩
    have hval : Pl.val env (.un ⟨7, tn, s⟩ a) = none := by simp only [Pl.val, ← HVa.out, Option.bind_none]
    rw [hval]
    exact ⟨rfl, HB1.out⟩
  | some x =>
    have HX := Lib.hid (small_of_valid (Pl.val_valid a x HW.out.2.2 (fun t ht => HE.out t (by simp [Fm.flat, ht])) HVa.out.symm))
    obtain rfl : e = .returned x.agg := hr
    obtain ⟨xk, xn, xs⟩ := x
    unfold Tm.agg
    have hb2 := below2 w1 (.cells #[.int .i64 xk, .int .i64 xn, .string xs] 48) (.cells #[.int .i64 0, .int .i64 0, .string ⟨#[]⟩] 48)
    have h2 := h1.below hb2 HN.out
    have br2 := br1.keep hb2
    have bt2 := bt1.keep hb2
    have HB2 := Lib.hid (HB1.out.trans (hb2.mono HB1.out.size))
    clear hb2
    obtain ⟨t0, t1, t2, tf0, tf1, tf2⟩ := bt1.cells
    have tl := bt1.lt
    obtain ⟨r0, r1, r2, rf0, rf1, rf2⟩ := br1.cells
    have rl := br1.lt
    have ho2 := h1.ho
    have hol2 := lt_of_cell ho2
    have hlk : (Instr.lookup 105 (.map (some o)) (.int .i64 7) false).run Tryz.prog ((w1.alloc (.cells #[.int .i64 xk, .int .i64 xn, .string xs] 48)).alloc (.cells #[.int .i64 0, .int .i64 0, .string ⟨#[]⟩] 48)) = .ok (.func (.func 104) #[] #[]) ((w1.alloc (.cells #[.int .i64 xk, .int .i64 xn, .string xs] 48)).alloc (.cells #[.int .i64 0, .int .i64 0, .string ⟨#[]⟩] 48)) :=
      run_get Tryz.underlying105 Tryz.underlying3 (show MapKept.IsKey (.int .i64) (.int .i64 7) by simp [MapKept.IsKey]) h2.hob (i := 2) rfl
    go_wp2_with (go_at_call 49; refine (operands_is 7 1 _ (Lib.hid rfl)).mono ?_; rintro e w' ⟨rfl, rfl⟩)
    clear hlk t0 t1 t2 tf0 tf1 tf2 tl r0 r1 r2 rf0 rf1 rf2 rl
    refine (show Calls Tryz.prog 104 #[.agg #[.int .i64 xk, .int .i64 xn, .string xs], .agg #[.int .i64 0, .int .i64 0, .string ⟨#[]⟩]] _ (OpPost (Pl.opOf 7 ⟨xk, xn, xs⟩ Pl.zeroV) _) from op_any 7 (by decide) (by decide) ⟨xk, xn, xs⟩ Pl.zeroV _ HX.out small_zero).mono ?_
    rintro e w3 ⟨hr3, hb3⟩
    have h3 := h2.below hb3 HN.out
    have br3 := br2.keep hb3
    have HB3 := Lib.hid (HB2.out.trans (hb3.mono HB2.out.size))
    obtain ⟨vo, hvo⟩ : ∃ vo, vo = Pl.opOf 7 ⟨xk, xn, xs⟩ Pl.zeroV := ⟨_, rfl⟩
    rw [← hvo] at hr3
    have HVO := Lib.hid hvo
    clear hvo hb3
    obtain ⟨r0, r1, r2, rf0, rf1, rf2⟩ := br3.cells
    have rl := br3.lt
    cases vo with
    | none =>
      obtain rfl : e = .panicked noneP := hr3
      go_wp2
      refine ⟨rfl, ?_⟩
      have hval : Pl.val env (.un ⟨7, tn, s⟩ a) = (Pl.opOf 7 ⟨xk, xn, xs⟩ Pl.zeroV).bind fun v => if Pl.validV v = true then some v else none := by
        simp only [Pl.val, ← HVa.out, Option.bind_some, Pl.app]
      rw [hval]
      rw [← HVO.out]
      exact ⟨rfl, HB3.out⟩
    | some u =>
      obtain rfl : e = .returned u.agg := hr3
      obtain ⟨uk, un, us⟩ := u
      unfold Tm.agg
      obtain ⟨vb, hvb⟩ : ∃ vb, vb = Pl.validV ⟨uk, un, us⟩ := ⟨_, rfl⟩
      have HVB := Lib.hid hvb
      clear hvb
      have br4 := br3.keep (below1 w3 (.cells #[.int .i64 uk, .int .i64 un, .string us] 48))
      have HB4 := Lib.hid (HB3.out.trans ((below1 w3 (.cells #[.int .i64 uk, .int .i64 un, .string us] 48)).mono HB3.out.size))
      have bu4 := Box3.new w3 (.int .i64 uk) (.int .i64 un) (.string us) 48
      go_wp2_with fail
      refine (show Calls Tryz.prog 30 #[.agg #[.int .i64 uk, .int .i64 un, .string us]] (w3.alloc (.cells #[.int .i64 uk, .int .i64 un, .string us] 48)) _ from validValue_is ⟨uk, un, us⟩ vb _ HVB).mono ?_
      rintro e w5 ⟨rfl, hb5⟩
      have br5 := br4.keep hb5
      have bu5 := bu4.keep hb5
      have HB5 := Lib.hid (HB4.out.trans (hb5.mono HB4.out.size))
      clear hb5 r0 r1 r2 rf0 rf1 rf2 rl
      obtain ⟨r0, r1, r2, rf0, rf1, rf2⟩ := br5.cells
      have rl := br5.lt
      obtain ⟨u0, u1, u2, uf0, uf1, uf2⟩ := bu5.cells
      have ul := bu5.lt
      cases vb with
      | true =>
        go_wp2
        obtain ⟨z0, z1, z2⟩ := set3 r0 r1 r2 (.int .i64 uk) (.int .i64 un) (.string us)
        refine bodyPost_ret (v := .agg #[.int .i64 uk, .int .i64 un, .string us]) (by simp [results, Tryz.results65, go_sem, z0, z1, z2]) rfl ?_
        have hval : Pl.val env (.un ⟨7, tn, s⟩ a) = (Pl.opOf 7 ⟨xk, xn, xs⟩ Pl.zeroV).bind fun v => if Pl.validV v = true then some v else none := by
          simp only [Pl.val, ← HVa.out, Option.bind_some, Pl.app]
        rw [hval]
        rw [← HVO.out]
        simp only [Option.bind_some]
        rw [if_pos HVB.out.symm]
        exact ⟨rfl, ((HB5.out.setCell (p := ⟨w.heap.size, 0, none⟩) (Nat.le_refl _) _).setCell (p := ⟨w.heap.size, 1, none⟩) (Nat.le_refl _) _).setCell (p := ⟨w.heap.size, 2, none⟩) (Nat.le_refl _) _⟩
      | false =>
        go_wp2
        refine ⟨rfl, ?_⟩
        have hval : Pl.val env (.un ⟨7, tn, s⟩ a) = (Pl.opOf 7 ⟨xk, xn, xs⟩ Pl.zeroV).bind fun v => if Pl.validV v = true then some v else none := by
          simp only [Pl.val, ← HVa.out, Option.bind_some, Pl.app]
        rw [hval]
        rw [← HVO.out]
        simp only [Option.bind_some]
        rw [if_neg (by rw [← HVB.out]; decide)]
        exact ⟨rfl, HB5.out⟩
end Go.Proofs.YtchoelgkcnnnkaaGreatDoor
