/- PLAIN LAWS: the value of a formula; WALK: the operators by their kinds. · WALK: formula.Value's closure that goes over an operand. -/
import Derived.Test.YtchoelgkcnnnkaaGreatDoorMapA
import Derived.Test.YtchoelgkcnnnkaaGreatDoorOpsB
import Derived.Test.YtchoelgkcnnnkaaGreatDoorOpsD
import Derived.Test.YtchoelgkcnnnkaaGreatDoorPrintA
set_option linter.all false
namespace Go.Proofs.YtchoelgkcnnnkaaGreatDoor
open Go.RowKit
namespace Pl
/-- What an operator gives; none where it gives up. -/
def opOf (k : Int) (x y : Tm) : Option Tm :=
  if k = 5 then some (numV (-x.n)) else if k = 6 then some (truthV (decide (x.n = 0))) else if k = 7 then some (numV x.s.size) else if k = 8 then some ⟨x.k, x.n + y.n, x.s ++ y.s⟩
  else if k = 9 then some (numV (x.n - y.n)) else if k = 10 then (if (x.n * y.n).natAbs ≤ 1000000000000 ∨ x.n * y.n = -9223372036854775808 then some (numV (x.n * y.n)) else none)
  else if k = 11 then (if y.n = 0 then none else some (numV (flq x.n y.n))) else if k = 12 then (if y.n = 0 then none else some (numV (flr x.n y.n)))
  else if k = 13 then some (truthV ((x.k == y.k) && ((x.n == y.n) && (x.s.toList == y.s.toList)))) else if k = 14 then some (truthV (lessB x y))
  else if k = 15 then some (truthV (decide (x.n + y.n = 2))) else some (truthV (decide (x.n + y.n > 0)))
def app (k : Int) (x y : Tm) : Option Tm := (opOf k x y).bind fun v => if validV v = true then some v else none
def zeroV : Tm := ⟨0, 0, ⟨#[]⟩⟩
/-- The value of a formula. -/
def val (env : ByteArray → Tm) : Fm → Option Tm
  | .lf t => some (if t.k = 4 then env t.s else t)
  | .un t a => (val env a).bind fun x => app t.k x zeroV
  | .bi t a b => (val env a).bind fun x => (val env b).bind fun y => app t.k x y
  | .tr _ a b c => (val env a).bind fun x => if x.n = 1 then val env b else val env c
/-- Every name has a valid value. -/
def EnvOk (env : ByteArray → Tm) (f : Fm) : Prop := ∀ t ∈ f.flat, t.k = 4 → validV (env t.s) = true
theorem app_valid {k : Int} {x y v : Tm} (h : app k x y = some v) : validV v = true := by
  unfold app at h
  rw [Option.bind_eq_some_iff] at h
  obtain ⟨u, _, h⟩ := h
  split at h
  · cases h; assumption
  · cases h
theorem leaf_valid {t : Tm} (h : formed t = true) (h0 : operandsOf t.k = 0) (h4 : t.k ≠ 4) : validV t = true := by
  have hk : t.k = 1 ∨ t.k = 2 ∨ t.k = 3 := by
    unfold operandsOf at h0
    split at h0
    · omega
    · split at h0
      · omega
      · split at h0
        · omega
        · split at h0 <;> omega
  unfold formed at h
  unfold validV
  rcases hk with hk | hk | hk
  · rw [if_pos hk] at h ⊢
    simp only [Bool.and_eq_true, decide_eq_true_eq] at h ⊢
    exact ⟨⟨by omega, by omega⟩, h.2⟩
  · rw [if_neg (by omega), if_pos hk] at h ⊢
    exact h
  · rw [if_neg (by omega), if_neg (by omega), if_pos hk] at h ⊢
    simp only [Bool.and_eq_true, decide_eq_true_eq] at h ⊢
    exact ⟨h.1.1, by omega⟩
theorem val_valid {env : ByteArray → Tm} : ∀ (f : Fm) (v : Tm), f.wf → EnvOk env f → val env f = some v → validV v = true
  | .lf t, v, hw, he, h => by
    simp only [val, Option.some.injEq] at h
    subst h
    by_cases h4 : t.k = 4
    · rw [if_pos h4]; exact he t (by simp [Fm.flat]) h4
    · rw [if_neg h4]; exact leaf_valid hw.1 hw.2 h4
  | .un t a, v, hw, he, h => by
    simp only [val, Option.bind_eq_some_iff] at h
    obtain ⟨x, _, h⟩ := h
    exact app_valid h
  | .bi t a b, v, hw, he, h => by
    simp only [val, Option.bind_eq_some_iff] at h
    obtain ⟨x, _, y, _, h⟩ := h
    exact app_valid h
  | .tr t a b c, v, hw, he, h => by
    simp only [val, Option.bind_eq_some_iff] at h
    obtain ⟨x, _, h⟩ := h
    split at h
    · exact val_valid b v hw.2.2.2.1 (fun t ht => he t (by simp [Fm.flat, ht])) h
    · exact val_valid c v hw.2.2.2.2 (fun t ht => he t (by simp [Fm.flat, ht])) h
end Pl
theorem small_of_valid {v : Tm} (h : Pl.validV v = true) : Small v := by
  unfold Pl.validV at h
  have hem : ∀ s : ByteArray, s.toList.isEmpty = true → s.size = 0 := by
    intro s hs
    rw [Lib.toList_data] at hs
    have : s.data.toList.length = 0 := by rw [List.isEmpty_iff] at hs; rw [hs]; rfl
    exact this
  split at h
  · simp only [Bool.and_eq_true, decide_eq_true_eq] at h
    exact ⟨⟨h.1.1, h.1.2⟩, by have := hem _ h.2; omega⟩
  · split at h
    · simp only [Bool.and_eq_true, decide_eq_true_eq] at h
      exact ⟨⟨by omega, by omega⟩, by have := hem _ h.2; omega⟩
    · split at h
      · simp only [Bool.and_eq_true, decide_eq_true_eq] at h
        exact ⟨⟨by omega, by omega⟩, by omega⟩
      · cases h
theorem small_zero : Small Pl.zeroV := ⟨⟨by decide, by decide⟩, by decide⟩
/-- The function of an operator. -/
def fnOf (k : Int) : FuncId := if k = 5 then 100 else if k = 6 then 102 else if k = 7 then 104 else if k = 8 then 105 else if k = 9 then 106 else if k = 10 then 107 else if k = 11 then 109 else if k = 12 then 111 else if k = 13 then 112 else if k = 14 then 113 else if k = 15 then 117 else 118
def OpPost (r : Option Tm) (w : World) (e : Ending) (w' : World) : Prop := (match r with | some v => e = .returned v.agg | none => e = .panicked noneP) ∧ Below w.heap.size w w'
theorem op_any (k : Int) (hk : 5 ≤ k) (hk2 : k ≤ 16) (x y : Tm) (w : World) (hx : Small x) (hy : Small y) : Calls Tryz.prog (fnOf k) #[x.agg, y.agg] w (OpPost (Pl.opOf k x y) w) := by
  have hc : k = 5 ∨ k = 6 ∨ k = 7 ∨ k = 8 ∨ k = 9 ∨ k = 10 ∨ k = 11 ∨ k = 12 ∨ k = 13 ∨ k = 14 ∨ k = 15 ∨ k = 16 := by omega
  rcases hc with rfl | rfl | rfl | rfl | rfl | rfl | rfl | rfl | rfl | rfl | rfl | rfl
  · exact (opNeg x y w hx hy).mono fun e w' h => ⟨h.1, h.2⟩
  · exact (opNot x y w hx hy).mono fun e w' h => ⟨h.1, h.2⟩
  · exact (opLen x y w hx hy).mono fun e w' h => ⟨h.1, h.2⟩
  · exact (opAdd x y w hx hy).mono fun e w' h => ⟨h.1, h.2⟩
  · exact (opSub x y w hx hy).mono fun e w' h => ⟨h.1, h.2⟩
  · by_cases h0 : (x.n * y.n).natAbs ≤ 1000000000000 ∨ x.n * y.n = -9223372036854775808
    · refine (opMul x y w hx hy h0).mono fun e w' h => ⟨?_, h.2⟩
      simp only [Pl.opOf, if_pos h0]
      exact h.1
    · refine (opMulZ x y w hx hy h0).mono fun e w' h => ⟨?_, h.2⟩
      simp only [Pl.opOf, if_neg h0]
      exact h.1
  · by_cases h0 : y.n = 0
    · refine (opDivZ x y w h0).mono fun e w' h => ⟨?_, h.2⟩
      simp only [Pl.opOf, if_pos h0]
      exact h.1
    · refine (opDiv x y w hx hy h0).mono fun e w' h => ⟨?_, h.2⟩
      simp only [Pl.opOf, if_neg h0]
      exact h.1
  · by_cases h0 : y.n = 0
    · refine (opModZ x y w h0).mono fun e w' h => ⟨?_, h.2⟩
      simp only [Pl.opOf, if_pos h0]
      exact h.1
    · refine (opMod x y w hx hy h0).mono fun e w' h => ⟨?_, h.2⟩
      simp only [Pl.opOf, if_neg h0]
      exact h.1
  · exact (opEq x y _ w hx hy (Lib.hid rfl)).mono fun e w' h => ⟨h.1, h.2⟩
  · cases hd : Pl.lessB x y with
    | true =>
      refine (opLess_true x y w hx hy _ (Lib.hid rfl) hd).mono fun e w' h => ⟨?_, h.2⟩
      have : Pl.opOf 14 x y = some (truthV (Pl.lessB x y)) := rfl
      rw [this, hd]
      exact h.1
    | false =>
      refine (opLess_false x y w hx hy _ (Lib.hid rfl) hd).mono fun e w' h => ⟨?_, h.2⟩
      have : Pl.opOf 14 x y = some (truthV (Pl.lessB x y)) := rfl
      rw [this, hd]
      exact h.1
  · exact (opAnd x y w hx hy).mono fun e w' h => ⟨h.1, h.2⟩
  · exact (opOr x y w hx hy).mono fun e w' h => ⟨h.1, h.2⟩
end Go.Proofs.YtchoelgkcnnnkaaGreatDoor
namespace Go.Proofs.YtchoelgkcnnnkaaGreatDoor
open Go.RowKit
structure SS (w : World) (q sb d off c : Nat) (ts : List Tm) : Prop where
  hv : w.cell? ⟨q, 0, none⟩ = some (.slice (some ⟨d, off, none⟩) ts.length c)
  cap : ts.length ≤ c
  row : RowIn w d off ts
  hs : w.cell? ⟨sb, 0, none⟩ = some (.func (.func 64) #[] #[.pointer (some ⟨q, 0, none⟩), .pointer (some ⟨sb, 0, none⟩)])
theorem SS.below {w w' : World} {q sb d off c : Nat} {ts : List Tm} (h : SS w q sb d off c ts) (hb : Below w.heap.size w w') (hne : ts ≠ []) : SS w' q sb d off c ts :=
  { h with
    hv := (hb.cell (p := ⟨q, 0, none⟩) (lt_of_cell h.hv)).trans h.hv
    row := h.row.below hb (h.row.lt hne)
    hs := (hb.cell (p := ⟨sb, 0, none⟩) (lt_of_cell h.hs)).trans h.hs }
theorem operands_is (k r : Int) (w : World) (h : Hid (r = Pl.operandsOf k)) :
    Calls Tryz.prog 49 #[.int .i64 k] w fun e w' => e = .returned (.int .i64 r) ∧ w = w' :=
  (operands_any k w).mono fun _ _ ⟨h1, h2⟩ => ⟨by rw [h1, h.out], h2⟩
def Sk (q sb d off c : Nat) (ts : List Tm) (f : Fm) : Prop := ∀ (pre post : List Tm) (i : Int) (w : World), f.wf → ts = pre ++ (f.flat ++ post) → i = (pre.length : Int) → SS w q sb d off c ts →
  Calls Tryz.prog 64 #[.int .i64 i, .pointer (some ⟨q, 0, none⟩), .pointer (some ⟨sb, 0, none⟩)] w fun e w' => e = .returned (.int .i64 (i + f.flat.length)) ∧ w = w'
set_option maxRecDepth 100000 in
set_option maxHeartbeats 1000000 in
theorem sk_lf (q sb d off c : Nat) (ts : List Tm) (hl : ts.length ≤ 60) (t : Tm)  : Sk q sb d off c ts (.lf t) := by
  intro pre post i w hwf hts hi h
  have hget := mid_get (t := t) (post := post) (by simpa [Fm.flat] using hts)
  have hlt : pre.length < ts.length := (List.getElem?_eq_some_iff.1 hget).1
  obtain ⟨m0, m1, m2, m3⟩ := h.row pre.length t hget
  have hv := h.hv
  have hcap := h.cap
  have hfc := h.hs
  obtain ⟨k, tn, s⟩ := t
  simp only at *
  subst hi
  have H := Lib.hid h
  have HT := Lib.hid hts
  have HW := Lib.hid hwf
  have HO : Hid ((0 : Int) = Pl.operandsOf k) := Lib.hid hwf.2.symm
  clear h hts hwf m1 m2 m3 hget
  go_enter Tryz.func64, Tryz.ntmps64
  go_wp2_with fail
  refine (operands_is k 0 _ HO).mono ?_
  rintro e w' ⟨rfl, rfl⟩
  go_wp2_with fail
  refine wp_loop_rounds 1 ?_
  rw [rounds_succ]
  go_wp2_with fail
  go_ret
  exact ⟨ret_int (by simp [Fm.flat] <;> omega), rfl⟩
set_option maxRecDepth 100000 in
set_option maxHeartbeats 1000000 in
theorem sk_un (q sb d off c : Nat) (ts : List Tm) (hl : ts.length ≤ 60) (t : Tm) (a : Fm) (ia : Sk q sb d off c ts a) : Sk q sb d off c ts (.un t a) := by
  intro pre post i w hwf hts hi h
  have hget := mid_get (t := t) (post := a.flat ++ post) (by simpa [Fm.flat] using hts)
  have hlt : pre.length < ts.length := (List.getElem?_eq_some_iff.1 hget).1
  obtain ⟨m0, m1, m2, m3⟩ := h.row pre.length t hget
  have hv := h.hv
  have hcap := h.cap
  have hfc := h.hs
  obtain ⟨k, tn, s⟩ := t
  simp only at *
  subst hi
  have H := Lib.hid h
  have HT := Lib.hid hts
  have HW := Lib.hid hwf
  have HO : Hid ((1 : Int) = Pl.operandsOf k) := Lib.hid hwf.2.1.symm
  clear h hts hwf m1 m2 m3 hget
  go_enter Tryz.func64, Tryz.ntmps64
  go_wp2_with fail
  refine (operands_is k 1 _ HO).mono ?_
  rintro e w' ⟨rfl, rfl⟩
  go_wp2_with fail
  refine wp_loop_rounds 2 ?_
  rw [rounds_succ]
  go_wp2_with fail
  refine (ia (pre ++ [⟨k, tn, s⟩]) _ _ _ HW.out.2.2 (by rw [HT.out]; simp [Fm.flat]; rfl) (by simp <;> omega) H.out).mono ?_
  rintro e w' ⟨rfl, rfl⟩
  go_wp2_with fail
  rw [rounds_succ]
  go_wp2_with fail
  go_ret
  exact ⟨ret_int (by simp [Fm.flat] <;> omega), rfl⟩
set_option maxRecDepth 100000 in
set_option maxHeartbeats 1000000 in
theorem sk_bi (q sb d off c : Nat) (ts : List Tm) (hl : ts.length ≤ 60) (t : Tm) (a b : Fm) (ia : Sk q sb d off c ts a) (ib : Sk q sb d off c ts b) : Sk q sb d off c ts (.bi t a b) := by
  intro pre post i w hwf hts hi h
  have hget := mid_get (t := t) (post := a.flat ++ (b.flat ++ post)) (by simpa [Fm.flat] using hts)
  have hlt : pre.length < ts.length := (List.getElem?_eq_some_iff.1 hget).1
  obtain ⟨m0, m1, m2, m3⟩ := h.row pre.length t hget
  have hv := h.hv
  have hcap := h.cap
  have hfc := h.hs
  obtain ⟨k, tn, s⟩ := t
  simp only at *
  subst hi
  have H := Lib.hid h
  have HT := Lib.hid hts
  have HW := Lib.hid hwf
  have HO : Hid ((2 : Int) = Pl.operandsOf k) := Lib.hid hwf.2.1.symm
  clear h hts hwf m1 m2 m3 hget
  go_enter Tryz.func64, Tryz.ntmps64
  go_wp2_with fail
  refine (operands_is k 2 _ HO).mono ?_
  rintro e w' ⟨rfl, rfl⟩
  go_wp2_with fail
  refine wp_loop_rounds 3 ?_
  rw [rounds_succ]
  go_wp2_with fail
  refine (ia (pre ++ [⟨k, tn, s⟩]) _ _ _ HW.out.2.2.1 (by rw [HT.out]; simp [Fm.flat]; rfl) (by simp <;> omega) H.out).mono ?_
  rintro e w' ⟨rfl, rfl⟩
  go_wp2_with fail
  rw [rounds_succ]
  go_wp2_with fail
  refine (ib (pre ++ [⟨k, tn, s⟩] ++ a.flat) _ _ _ HW.out.2.2.2 (by rw [HT.out]; simp [Fm.flat]; rfl) (by simp <;> omega) H.out).mono ?_
  rintro e w' ⟨rfl, rfl⟩
  go_wp2_with fail
  rw [rounds_succ]
  go_wp2_with fail
  go_ret
  exact ⟨ret_int (by simp [Fm.flat] <;> omega), rfl⟩
set_option maxRecDepth 100000 in
set_option maxHeartbeats 1000000 in
theorem sk_tr (q sb d off c : Nat) (ts : List Tm) (hl : ts.length ≤ 60) (t : Tm) (a b g : Fm) (ia : Sk q sb d off c ts a) (ib : Sk q sb d off c ts b) (ig : Sk q sb d off c ts g) : Sk q sb d off c ts (.tr t a b g) := by
  intro pre post i w hwf hts hi h
  have hget := mid_get (t := t) (post := a.flat ++ (b.flat ++ (g.flat ++ post))) (by simpa [Fm.flat] using hts)
  have hlt : pre.length < ts.length := (List.getElem?_eq_some_iff.1 hget).1
  obtain ⟨m0, m1, m2, m3⟩ := h.row pre.length t hget
  have hv := h.hv
  have hcap := h.cap
  have hfc := h.hs
  obtain ⟨k, tn, s⟩ := t
  simp only at *
  subst hi
  have H := Lib.hid h
  have HT := Lib.hid hts
  have HW := Lib.hid hwf
  have HO : Hid ((3 : Int) = Pl.operandsOf k) := Lib.hid hwf.2.1.symm
  clear h hts hwf m1 m2 m3 hget
  go_enter Tryz.func64, Tryz.ntmps64
  go_wp2_with fail
  refine (operands_is k 3 _ HO).mono ?_
  rintro e w' ⟨rfl, rfl⟩
  go_wp2_with fail
  refine wp_loop_rounds 4 ?_
  rw [rounds_succ]
  go_wp2_with fail
  refine (ia (pre ++ [⟨k, tn, s⟩]) _ _ _ HW.out.2.2.1 (by rw [HT.out]; simp [Fm.flat]; rfl) (by simp <;> omega) H.out).mono ?_
  rintro e w' ⟨rfl, rfl⟩
  go_wp2_with fail
  rw [rounds_succ]
  go_wp2_with fail
  refine (ib (pre ++ [⟨k, tn, s⟩] ++ a.flat) _ _ _ HW.out.2.2.2.1 (by rw [HT.out]; simp [Fm.flat]; rfl) (by simp <;> omega) H.out).mono ?_
  rintro e w' ⟨rfl, rfl⟩
  go_wp2_with fail
  rw [rounds_succ]
  go_wp2_with fail
  refine (ig (pre ++ [⟨k, tn, s⟩] ++ a.flat ++ b.flat) _ _ _ HW.out.2.2.2.2 (by rw [HT.out]; simp [Fm.flat]; rfl) (by simp <;> omega) H.out).mono ?_
  rintro e w' ⟨rfl, rfl⟩
  go_wp2_with fail
  rw [rounds_succ]
  go_wp2_with fail
  go_ret
  exact ⟨ret_int (by simp [Fm.flat] <;> omega), rfl⟩
theorem sk_all (q sb d off c : Nat) (ts : List Tm) (hl : ts.length ≤ 60) : ∀ f : Fm, Sk q sb d off c ts f
  | .lf t => sk_lf q sb d off c ts hl t
  | .un t a => sk_un q sb d off c ts hl t a (sk_all q sb d off c ts hl a)
  | .bi t a b => sk_bi q sb d off c ts hl t a b (sk_all q sb d off c ts hl a) (sk_all q sb d off c ts hl b)
  | .tr t a b g => sk_tr q sb d off c ts hl t a b g (sk_all q sb d off c ts hl a) (sk_all q sb d off c ts hl b) (sk_all q sb d off c ts hl g)
end Go.Proofs.YtchoelgkcnnnkaaGreatDoor
