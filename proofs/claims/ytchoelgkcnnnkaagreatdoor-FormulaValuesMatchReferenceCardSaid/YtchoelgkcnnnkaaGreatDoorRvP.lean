/- PLAIN LAWS: what the reference's value of a formula comes to, that it stays small, and that it is the program's. -/
import Derived.Test.YtchoelgkcnnnkaaGreatDoorPutP
set_option linter.all false
namespace Go.Proofs.YtchoelgkcnnnkaaGreatDoor
open Go.RowKit
namespace Pl
/-- What apply of the reference gives: its value, valid or not; the zero value where there is none. -/
def apR (k : Int) (x y : Tm) : Tm :=
  if k = 5 then numV (-x.n)
  else if k = 6 then truthV (decide (x.n = 0))
  else if k = 7 then numV x.s.size
  else if k = 8 then ⟨x.k, x.n + y.n, x.s ++ y.s⟩
  else if k = 9 then numV (x.n - y.n)
  else if k = 10 then numV (prodR x.n y.n)
  else if k = 11 then (if y.n = 0 then zeroV else numV (flq x.n y.n))
  else if k = 12 then (if y.n = 0 then zeroV else numV (flr x.n y.n))
  else if k = 13 then truthV ((x.k == y.k) && ((x.n == y.n) && (x.s.toList == y.s.toList)))
  else if k = 14 then truthV (decide (x.n < y.n) || Op.bytesLess x.s.toList y.s.toList)
  else if k = 15 then truthV (decide (x.n = 1) && decide (y.n = 1))
  else truthV (decide (x.n = 1) || decide (y.n = 1))
def valR (env : ByteArray → Tm) : Fm → Tm × Bool
  | .lf t => (if t.k = 4 then env t.s else t, true)
  | .un t a => (apR t.k (valR env a).1 zeroV, (valR env a).2 && validV (apR t.k (valR env a).1 zeroV))
  | .bi t a b => (apR t.k (valR env a).1 (valR env b).1, ((valR env a).2 && (valR env b).2) && validV (apR t.k (valR env a).1 (valR env b).1))
  | .tr _ a b c => if (valR env a).2 = false then (zeroV, false) else if (valR env a).1.n = 1 then valR env b else valR env c
theorem valid_num {x : Tm} (h : validV x = true) (hk : x.k = 1) : (-1000000000000 ≤ x.n ∧ x.n ≤ 1000000000000) ∧ x.s = ⟨#[]⟩ := by
  unfold validV at h
  rw [if_pos hk] at h
  simp only [Bool.and_eq_true, decide_eq_true_eq] at h
  exact ⟨h.1, empty_of h.2⟩
theorem valid_tru {x : Tm} (h : validV x = true) (hk : x.k = 2) : (x.n = 0 ∨ x.n = 1) ∧ x.s = ⟨#[]⟩ := by
  unfold validV at h
  rw [if_neg (by omega), if_pos hk] at h
  simp only [Bool.and_eq_true, decide_eq_true_eq] at h
  exact ⟨h.1, empty_of h.2⟩
theorem valid_txt {x : Tm} (h : validV x = true) (hk : x.k = 3) : x.n = 0 := by
  unfold validV at h
  rw [if_neg (by omega), if_neg (by omega), if_pos hk] at h
  simp only [Bool.and_eq_true, decide_eq_true_eq] at h
  exact h.1
theorem zero_not : validV zeroV = false := rfl
theorem app_same {k : Int} {x y : Tm} (h : opOf k x y = some (apR k x y)) : app k x y = if validV (apR k x y) = true then some (apR k x y) else none := by
  unfold app
  rw [h]; rfl
theorem bytesLess_nil : Op.bytesLess (⟨#[]⟩ : ByteArray).toList (⟨#[]⟩ : ByteArray).toList = false := by
  have h : (⟨#[]⟩ : ByteArray).toList = [] := by decide +kernel
  rw [h]; rfl
theorem less_num {x y : Tm} (hx : x.s = ⟨#[]⟩) (hy : y.s = ⟨#[]⟩) : lessB x y = (decide (x.n < y.n) || Op.bytesLess x.s.toList y.s.toList) := by
  unfold lessB
  rw [hx, hy, bytesLess_nil, Bool.or_false]
  have hc : cmpB ⟨#[]⟩ ⟨#[]⟩ = 0 := by
    unfold cmpB
    rw [bytesLess_nil]; simp
  rw [hc]
  unfold Lib.compareInt
  rcases Int.lt_trichotomy x.n y.n with h | h | h
  · simp [h]
  · simp [h]
  · have h1 : ¬ x.n < y.n := by omega
    simp [h1, h]
theorem less_txt {x y : Tm} (hx : x.n = 0) (hy : y.n = 0) : lessB x y = (decide (x.n < y.n) || Op.bytesLess x.s.toList y.s.toList) := by
  unfold lessB
  rw [hx, hy]
  have hc : Lib.compareInt 0 0 = 0 := by rfl
  rw [hc]
  unfold cmpB
  cases h : Op.bytesLess x.s.toList y.s.toList with
  | true => simp
  | false =>
    simp only [Bool.false_eq_true, if_false, ne_eq, not_true_eq_false]
    split <;> simp
/-- At operands with types the two agree. -/
theorem app_R {k : Int} {x y : Tm} (hk : 5 ≤ k ∧ k ≤ 16) (hx : validV x = true) (hy : 8 ≤ k → validV y = true) (ht : 8 ≤ k → opTy k [x.k, y.k] ≠ 0) (hxk : x.k = 1 ∨ x.k = 2 ∨ x.k = 3) (hyk : 8 ≤ k → y.k = 1 ∨ y.k = 2 ∨ y.k = 3) :
    app k x y = if validV (apR k x y) = true then some (apR k x y) else none := by
  have hks : k = 5 ∨ k = 6 ∨ k = 7 ∨ k = 8 ∨ k = 9 ∨ k = 10 ∨ k = 11 ∨ k = 12 ∨ k = 13 ∨ k = 14 ∨ k = 15 ∨ k = 16 := by omega
  rcases hks with rfl | rfl | rfl | rfl | rfl | rfl | rfl | rfl | rfl | rfl | rfl | rfl
  · exact app_same rfl
  · exact app_same rfl
  · exact app_same rfl
  · exact app_same rfl
  · exact app_same rfl
  · have e1 : opOf 10 x y = if (x.n * y.n).natAbs ≤ 1000000000000 ∨ x.n * y.n = -9223372036854775808 then some (numV (x.n * y.n)) else none := rfl
    have e2 : apR 10 x y = numV (prodR x.n y.n) := rfl
    unfold app
    rw [e1, e2]
    unfold prodR
    by_cases h : (x.n * y.n).natAbs ≤ 1000000000000
    · rw [if_pos (.inl h), if_pos h]; rfl
    · rw [if_neg h]
      have hv : validV (numV 1000000000001) = false := by rfl
      rw [hv]
      by_cases h2 : x.n * y.n = -9223372036854775808
      · rw [if_pos (.inr h2), h2]; rfl
      · rw [if_neg (by rintro (h' | h') <;> contradiction)]; rfl
  · have e1 : opOf 11 x y = if y.n = 0 then none else some (numV (flq x.n y.n)) := rfl
    have e2 : apR 11 x y = if y.n = 0 then zeroV else numV (flq x.n y.n) := rfl
    unfold app
    rw [e1, e2]
    by_cases h : y.n = 0
    · rw [if_pos h, if_pos h, zero_not]; rfl
    · rw [if_neg h, if_neg h]; rfl
  · have e1 : opOf 12 x y = if y.n = 0 then none else some (numV (flr x.n y.n)) := rfl
    have e2 : apR 12 x y = if y.n = 0 then zeroV else numV (flr x.n y.n) := rfl
    unfold app
    rw [e1, e2]
    by_cases h : y.n = 0
    · rw [if_pos h, if_pos h, zero_not]; rfl
    · rw [if_neg h, if_neg h]; rfl
  · exact app_same rfl
  · refine app_same ?_
    have e1 : opOf 14 x y = some (truthV (lessB x y)) := rfl
    have e2 : apR 14 x y = truthV (decide (x.n < y.n) || Op.bytesLess x.s.toList y.s.toList) := rfl
    rw [e1, e2]
    have ht' := ht (by decide)
    have hy' := hy (by decide)
    rcases hxk with h1 | h1 | h1 <;> rcases hyk (by decide) with h2 | h2 | h2
    · rw [less_num (valid_num hx h1).2 (valid_num hy' h2).2]
    · rw [h1, h2] at ht'; exact absurd rfl ht'
    · rw [h1, h2] at ht'; exact absurd rfl ht'
    · rw [h1, h2] at ht'; exact absurd rfl ht'
    · rw [h1, h2] at ht'; exact absurd rfl ht'
    · rw [h1, h2] at ht'; exact absurd rfl ht'
    · rw [h1, h2] at ht'; exact absurd rfl ht'
    · rw [h1, h2] at ht'; exact absurd rfl ht'
    · rw [less_txt (valid_txt hx h1) (valid_txt hy' h2)]
  · refine app_same ?_
    have e1 : opOf 15 x y = some (truthV (decide (x.n + y.n = 2))) := rfl
    have e2 : apR 15 x y = truthV (decide (x.n = 1) && decide (y.n = 1)) := rfl
    rw [e1, e2]
    have ht' := ht (by decide)
    have hy' := hy (by decide)
    rcases hxk with h1 | h1 | h1 <;> rcases hyk (by decide) with h2 | h2 | h2
    all_goals first
      | (rw [h1, h2] at ht'; exact absurd rfl ht')
      | (rcases (valid_tru hx h1).1 with h3 | h3 <;> rcases (valid_tru hy' h2).1 with h4 | h4 <;> rw [h3, h4] <;> rfl)
  · refine app_same ?_
    have e1 : opOf 16 x y = some (truthV (decide (x.n + y.n > 0))) := rfl
    have e2 : apR 16 x y = truthV (decide (x.n = 1) || decide (y.n = 1)) := rfl
    rw [e1, e2]
    have ht' := ht (by decide)
    have hy' := hy (by decide)
    rcases hxk with h1 | h1 | h1 <;> rcases hyk (by decide) with h2 | h2 | h2
    all_goals first
      | (rw [h1, h2] at ht'; exact absurd rfl ht')
      | (rcases (valid_tru hx h1).1 with h3 | h3 <;> rcases (valid_tru hy' h2).1 with h4 | h4 <;> rw [h3, h4] <;> rfl)
theorem ty_un {t : Tm} {a : Fm} (h : ty (.un t a) ≠ 0) : ty a ≠ 0 ∧ typedOf t [ty a] ≠ 0 := by
  have e : ty (.un t a) = if ty a = 0 then 0 else typedOf t [ty a] := rfl
  rw [e] at h
  by_cases h1 : ty a = 0
  · rw [if_pos h1] at h; exact absurd rfl h
  · rw [if_neg h1] at h; exact ⟨h1, h⟩
theorem ty_bi {t : Tm} {a b : Fm} (h : ty (.bi t a b) ≠ 0) : (ty a ≠ 0 ∧ ty b ≠ 0) ∧ typedOf t [ty a, ty b] ≠ 0 := by
  have e : ty (.bi t a b) = if ty a = 0 ∨ ty b = 0 then 0 else typedOf t [ty a, ty b] := rfl
  rw [e] at h
  by_cases h1 : ty a = 0 ∨ ty b = 0
  · rw [if_pos h1] at h; exact absurd rfl h
  · rw [if_neg h1] at h; exact ⟨⟨fun e => h1 (.inl e), fun e => h1 (.inr e)⟩, h⟩
theorem ty_tr {t : Tm} {a b c : Fm} (h : ty (.tr t a b c) ≠ 0) : ty a ≠ 0 ∧ ty b ≠ 0 ∧ ty c ≠ 0 := by
  have e : ty (.tr t a b c) = if ty a = 0 ∨ ty b = 0 ∨ ty c = 0 then 0 else typedOf t [ty a, ty b, ty c] := rfl
  rw [e] at h
  by_cases h1 : ty a = 0 ∨ ty b = 0 ∨ ty c = 0
  · rw [if_pos h1] at h; exact absurd rfl h
  · exact ⟨fun e => h1 (.inl e), fun e => h1 (.inr (.inl e)), fun e => h1 (.inr (.inr e))⟩
theorem val_valR {env : ByteArray → Tm} : ∀ f : Fm, f.wf → EnvOk env f → EnvTy env f → ty f ≠ 0 → val env f = if (valR env f).2 = true then some (valR env f).1 else none
  | .lf t, _, _, _, _ => rfl
  | .un t a, hw, ho, he, ht => by
    obtain ⟨h1, h2⟩ := ty_un ht
    have hoa : EnvOk env a := fun u hu => ho u (by simp [Fm.flat, hu])
    have hea : EnvTy env a := fun u hu => he u (by simp [Fm.flat, hu])
    have iha := val_valR a hw.2.2 hoa hea h1
    have hk := kinds1 hw.2.1
    show (val env a).bind (fun x => app t.k x zeroV) = if ((valR env a).2 && validV (apR t.k (valR env a).1 zeroV)) = true then some (apR t.k (valR env a).1 zeroV) else none
    cases hb : (valR env a).2 with
    | false =>
      rw [hb] at iha
      rw [iha]; rfl
    | true =>
      rw [hb] at iha
      have hv : val env a = some (valR env a).1 := iha
      rw [hv]
      have hxv := val_valid a _ hw.2.2 hoa hv
      have hxk := val_type a _ hw.2.2 hea h1 hv
      have htc := ty_cases h1
      rw [← hxk] at htc
      show app t.k (valR env a).1 zeroV = _
      rw [app_R (by omega) hxv (by omega) (by omega) htc (by omega), Bool.true_and]
  | .bi t a b, hw, ho, he, ht => by
    obtain ⟨⟨h1, h2⟩, h3⟩ := ty_bi ht
    have hoa : EnvOk env a := fun u hu => ho u (by simp [Fm.flat, hu])
    have hea : EnvTy env a := fun u hu => he u (by simp [Fm.flat, hu])
    have hob : EnvOk env b := fun u hu => ho u (by simp [Fm.flat, hu])
    have heb : EnvTy env b := fun u hu => he u (by simp [Fm.flat, hu])
    have iha := val_valR a hw.2.2.1 hoa hea h1
    have ihb := val_valR b hw.2.2.2 hob heb h2
    have hk := kinds2 hw.2.1
    show (val env a).bind (fun x => (val env b).bind fun y => app t.k x y) = if (((valR env a).2 && (valR env b).2) && validV (apR t.k (valR env a).1 (valR env b).1)) = true then some (apR t.k (valR env a).1 (valR env b).1) else none
    cases hb : (valR env a).2 with
    | false =>
      rw [hb] at iha
      rw [iha]; rfl
    | true =>
      rw [hb] at iha
      have hv : val env a = some (valR env a).1 := iha
      rw [hv]
      cases hc : (valR env b).2 with
      | false =>
        rw [hc] at ihb
        show (val env b).bind _ = _
        rw [ihb]; rfl
      | true =>
        rw [hc] at ihb
        have hv2 : val env b = some (valR env b).1 := ihb
        show (val env b).bind _ = _
        rw [hv2]
        have hxv := val_valid a _ hw.2.2.1 hoa hv
        have hxk := val_type a _ hw.2.2.1 hea h1 hv
        have hyv := val_valid b _ hw.2.2.2 hob hv2
        have hyk := val_type b _ hw.2.2.2 heb h2 hv2
        have htc := ty_cases h1
        have htd := ty_cases h2
        have ho2 : opTy t.k [(valR env a).1.k, (valR env b).1.k] ≠ 0 := by rw [hxk, hyk, ← typed_op t _ (by omega)]; exact h3
        rw [← hxk] at htc
        rw [← hyk] at htd
        show app t.k (valR env a).1 (valR env b).1 = _
        rw [app_R (by omega) hxv (fun _ => hyv) (fun _ => ho2) htc (fun _ => htd), Bool.and_self, Bool.true_and]
  | .tr t a b c, hw, ho, he, ht => by
    obtain ⟨h1, h2, h3⟩ := ty_tr ht
    have hoa : EnvOk env a := fun u hu => ho u (by simp [Fm.flat, hu])
    have hea : EnvTy env a := fun u hu => he u (by simp [Fm.flat, hu])
    have iha := val_valR a hw.2.2.1 hoa hea h1
    have ihb := val_valR b hw.2.2.2.1 (fun u hu => ho u (by simp [Fm.flat, hu])) (fun u hu => he u (by simp [Fm.flat, hu])) h2
    have ihc := val_valR c hw.2.2.2.2 (fun u hu => ho u (by simp [Fm.flat, hu])) (fun u hu => he u (by simp [Fm.flat, hu])) h3
    show (val env a).bind (fun x => if x.n = 1 then val env b else val env c) = if (if (valR env a).2 = false then (zeroV, false) else if (valR env a).1.n = 1 then valR env b else valR env c).2 = true then some (if (valR env a).2 = false then (zeroV, false) else if (valR env a).1.n = 1 then valR env b else valR env c).1 else none
    cases hb : (valR env a).2 with
    | false =>
      rw [hb] at iha
      rw [iha]; rfl
    | true =>
      rw [hb] at iha
      have hv : val env a = some (valR env a).1 := iha
      rw [hv]
      rw [if_neg (by decide : ¬ (true = false))]
      show (if (valR env a).1.n = 1 then val env b else val env c) = _
      by_cases hn : (valR env a).1.n = 1
      · rw [if_pos hn, if_pos hn]; exact ihb
      · rw [if_neg hn, if_neg hn]; exact ihc
/-- A value that an operator of the reference may meet, valid or not. -/
def Mid (m : Nat) (v : Tm) : Prop := (-(1000000000001 * (m : Int)) ≤ v.n ∧ v.n ≤ 1000000000001 * (m : Int)) ∧ v.s.size ≤ 400 * m
theorem flq_abs (a b : Int) : -(a.natAbs : Int) - 1 ≤ flq a b ∧ flq a b ≤ a.natAbs := by
  have h := tdiv_abs a b
  unfold flq
  split <;> omega
theorem flr_abs (a b : Int) (hb : b ≠ 0) : -(b.natAbs : Int) ≤ flr a b ∧ flr a b ≤ b.natAbs := by
  obtain ⟨h1, h2⟩ := flr_range a b hb
  rcases Int.lt_trichotomy b 0 with h | h | h
  · have := h2 h; omega
  · exact absurd h hb
  · have := h1 h; omega
theorem mid_num {m : Nat} {n : Int} (h : -(1000000000001 * (m : Int)) ≤ n ∧ n ≤ 1000000000001 * (m : Int)) : Mid m (numV n) := ⟨h, Nat.zero_le _⟩
theorem mid_tru {m : Nat} (b : Bool) (h : 1 ≤ m) : Mid m (truthV b) := by
  cases b
  · exact ⟨⟨by show -(1000000000001 * (m : Int)) ≤ 0; omega, by show (0 : Int) ≤ 1000000000001 * (m : Int); omega⟩, Nat.zero_le _⟩
  · exact ⟨⟨by show -(1000000000001 * (m : Int)) ≤ 1; omega, by show (1 : Int) ≤ 1000000000001 * (m : Int); omega⟩, Nat.zero_le _⟩
theorem mid_zero (m : Nat) : Mid m zeroV := ⟨⟨by show -(1000000000001 * (m : Int)) ≤ 0; omega, by show (0 : Int) ≤ 1000000000001 * (m : Int); omega⟩, Nat.zero_le _⟩
theorem prod_abs (a b : Int) : -1000000000001 ≤ prodR a b ∧ prodR a b ≤ 1000000000001 := by
  unfold prodR
  split <;> omega
theorem ite_mid {c : Prop} [Decidable c] {a b : Tm} {m : Nat} (h1 : c → Mid m a) (h2 : ¬ c → Mid m b) : Mid m (if c then a else b) := by
  by_cases h : c
  · rw [if_pos h]; exact h1 h
  · rw [if_neg h]; exact h2 h
theorem apR_mid {k : Int} {x y : Tm} {m q : Nat} (hx : Mid m x) (hy : Mid q y) : Mid (m + q + 1) (apR k x y) := by
  obtain ⟨⟨x0, x1⟩, x2⟩ := hx
  obtain ⟨⟨y0, y1⟩, y2⟩ := hy
  unfold apR
  refine ite_mid (fun _ => mid_num (by omega)) fun _ => ?_
  refine ite_mid (fun _ => mid_tru _ (by omega)) fun _ => ?_
  refine ite_mid (fun _ => mid_num (by omega)) fun _ => ?_
  refine ite_mid (fun _ => ⟨⟨?_, ?_⟩, ?_⟩) fun _ => ?_
  · show _ ≤ x.n + y.n; omega
  · show x.n + y.n ≤ _; omega
  · show (x.s ++ y.s).size ≤ _; rw [ByteArray.size_append]; omega
  refine ite_mid (fun _ => mid_num (by omega)) fun _ => ?_
  refine ite_mid (fun _ => by have := prod_abs x.n y.n; exact mid_num (by omega)) fun _ => ?_
  refine ite_mid (fun _ => ite_mid (fun _ => mid_zero _) fun _ => by have := flq_abs x.n y.n; exact mid_num (by omega)) fun _ => ?_
  refine ite_mid (fun _ => ite_mid (fun _ => mid_zero _) fun h => by have := flr_abs x.n y.n h; exact mid_num (by omega)) fun _ => ?_
  refine ite_mid (fun _ => mid_tru _ (by omega)) fun _ => ?_
  refine ite_mid (fun _ => mid_tru _ (by omega)) fun _ => ?_
  refine ite_mid (fun _ => mid_tru _ (by omega)) fun _ => ?_
  exact mid_tru _ (by omega)
theorem Mid.mono {m q : Nat} {v : Tm} (h : Mid m v) (hm : m ≤ q) : Mid q v := by
  obtain ⟨⟨h0, h1⟩, h2⟩ := h
  exact ⟨⟨by omega, by omega⟩, by omega⟩
theorem mid_valid {v : Tm} (h : validV v = true) : Mid 1 v := by
  obtain ⟨⟨h0, h1⟩, h2⟩ := small_of_valid h
  exact ⟨⟨by omega, by omega⟩, by omega⟩
theorem valR_mid {env : ByteArray → Tm} : ∀ f : Fm, f.wf → EnvOk env f → Mid f.flat.length (valR env f).1
  | .lf t, hw, ho => by
    show Mid 1 (if t.k = 4 then env t.s else t)
    by_cases h : t.k = 4
    · rw [if_pos h]; exact mid_valid (ho t (by simp [Fm.flat]) h)
    · rw [if_neg h]; exact mid_valid (leaf_valid hw.1 hw.2 h)
  | .un t a, hw, ho => by
    have ia := valR_mid a hw.2.2 (fun u hu => ho u (by simp [Fm.flat, hu]))
    have e : (Fm.un t a).flat.length = a.flat.length + 0 + 1 := by simp [Fm.flat]
    rw [e]
    exact apR_mid ia (mid_zero 0)
  | .bi t a b, hw, ho => by
    have ia := valR_mid a hw.2.2.1 (fun u hu => ho u (by simp [Fm.flat, hu]))
    have ib := valR_mid b hw.2.2.2 (fun u hu => ho u (by simp [Fm.flat, hu]))
    have e : (Fm.bi t a b).flat.length = a.flat.length + b.flat.length + 1 := by simp [Fm.flat]
    rw [e]
    exact apR_mid ia ib
  | .tr t a b c, hw, ho => by
    have ib := valR_mid b hw.2.2.2.1 (fun u hu => ho u (by simp [Fm.flat, hu]))
    have ic := valR_mid c hw.2.2.2.2 (fun u hu => ho u (by simp [Fm.flat, hu]))
    have e : (Fm.tr t a b c).flat.length = a.flat.length + (b.flat.length + c.flat.length) + 1 := by simp [Fm.flat]
    rw [e]
    show Mid _ (if (valR env a).2 = false then (zeroV, false) else if (valR env a).1.n = 1 then valR env b else valR env c).1
    split
    · exact mid_zero _
    split
    · exact ib.mono (by omega)
    · exact ic.mono (by omega)
end Pl
end Go.Proofs.YtchoelgkcnnnkaaGreatDoor
