/- PLAIN LAWS: the value of a formula has its type; nothing is wrong in a formula with a type; where an operand ends. -/
import Derived.Test.YtchoelgkcnnnkaaGreatDoorParseD
import Derived.Test.YtchoelgkcnnnkaaGreatDoorValJ
set_option linter.all false
namespace Go.Proofs.YtchoelgkcnnnkaaGreatDoor
open Go.RowKit
namespace Pl
theorem wrongAt_none : ∀ (f : Fm) (i w : Int), ty f ≠ 0 → wrongAt f i w = w
  | .lf _, i, w, _ => rfl
  | .un t a, i, w, h => by
    have ha : ty a ≠ 0 := by intro e; apply h; show (if ty a = 0 then 0 else _) = 0; rw [if_pos e]
    have ht : typedOf t [ty a] ≠ 0 := by
      intro e; apply h; show (if ty a = 0 then 0 else typedOf t [ty a]) = 0; rw [if_neg ha, e]
    have e1 := wrongAt_none a (i + 1) w ha
    show (if ty a ≠ 0 ∧ typedOf t [ty a] = 0 then max (wrongAt a (i + 1) w) i else wrongAt a (i + 1) w) = w
    rw [if_neg (by intro hh; exact ht hh.2), e1]
  | .bi t a b, i, w, h => by
    have hab : ¬ (ty a = 0 ∨ ty b = 0) := by intro e; apply h; show (if ty a = 0 ∨ ty b = 0 then 0 else _) = 0; rw [if_pos e]
    have ht : typedOf t [ty a, ty b] ≠ 0 := by
      intro e; apply h; show (if ty a = 0 ∨ ty b = 0 then 0 else typedOf t [ty a, ty b]) = 0; rw [if_neg hab, e]
    have e1 := wrongAt_none a (i + 1) w (fun e => hab (.inl e))
    have e2 := wrongAt_none b (i + 1 + a.flat.length) w (fun e => hab (.inr e))
    show (if (ty a ≠ 0 ∧ ty b ≠ 0) ∧ typedOf t [ty a, ty b] = 0 then max (wrongAt b (i + 1 + a.flat.length) (wrongAt a (i + 1) w)) i else wrongAt b (i + 1 + a.flat.length) (wrongAt a (i + 1) w)) = w
    rw [if_neg (by intro hh; exact ht hh.2), e1, e2]
  | .tr t a b c, i, w, h => by
    have hab : ¬ (ty a = 0 ∨ ty b = 0 ∨ ty c = 0) := by intro e; apply h; show (if ty a = 0 ∨ ty b = 0 ∨ ty c = 0 then 0 else _) = 0; rw [if_pos e]
    have ht : typedOf t [ty a, ty b, ty c] ≠ 0 := by
      intro e; apply h; show (if ty a = 0 ∨ ty b = 0 ∨ ty c = 0 then 0 else typedOf t [ty a, ty b, ty c]) = 0; rw [if_neg hab, e]
    have e1 := wrongAt_none a (i + 1) w (fun e => hab (.inl e))
    have e2 := wrongAt_none b (i + 1 + a.flat.length) w (fun e => hab (.inr (.inl e)))
    have e3 := wrongAt_none c (i + 1 + a.flat.length + b.flat.length) w (fun e => hab (.inr (.inr e)))
    show (if (ty a ≠ 0 ∧ ty b ≠ 0 ∧ ty c ≠ 0) ∧ typedOf t [ty a, ty b, ty c] = 0 then max (wrongAt c (i + 1 + a.flat.length + b.flat.length) (wrongAt b (i + 1 + a.flat.length) (wrongAt a (i + 1) w))) i else wrongAt c (i + 1 + a.flat.length + b.flat.length) (wrongAt b (i + 1 + a.flat.length) (wrongAt a (i + 1) w))) = w
    rw [if_neg (by intro hh; exact ht hh.2), e1, e2, e3]
theorem kinds4 {k : Int} (h : operandsOf k = 0) : k = 1 ∨ k = 2 ∨ k = 3 ∨ k = 4 := by
  unfold operandsOf at h
  split at h
  · omega
  · split at h
    · omega
    · split at h
      · omega
      · split at h <;> omega
/-- The type that an operator's rules give. -/
def opTy (k : Int) (l : List Int) : Int := look (rulesOf k) (l.map letterOf)
theorem typed_op (t : Tm) (l : List Int) (h : 5 ≤ t.k) : typedOf t l = opTy t.k l := by
  unfold typedOf opTy
  rw [if_neg (by omega), if_neg (by omega)]
theorem app_some {k : Int} {x y v : Tm} (h : app k x y = some v) : opOf k x y = some v := by
  unfold app at h
  rw [Option.bind_eq_some_iff] at h
  obtain ⟨u, h1, h⟩ := h
  split at h
  · cases h; exact h1
  · cases h
theorem truthV_k (b : Bool) : (truthV b).k = 2 := by cases b <;> rfl
theorem op1_type {k : Int} {x v : Tm} (hk : k = 5 ∨ k = 6 ∨ k = 7) (hx : x.k = 1 ∨ x.k = 2 ∨ x.k = 3) (ht : opTy k [x.k] ≠ 0) (h : opOf k x zeroV = some v) : v.k = opTy k [x.k] := by
  rcases hk with rfl | rfl | rfl
  · simp only [opOf, if_true] at h
    cases h
    rcases hx with e | e | e <;> rw [e] at ht ⊢
    · rfl
    · exact absurd (by decide) ht
    · exact absurd (by decide) ht
  · have h' : some (truthV (decide (x.n = 0))) = some v := by simpa [opOf] using h
    cases h'
    rw [truthV_k]
    rcases hx with e | e | e <;> rw [e] at ht ⊢
    · exact absurd (by decide) ht
    · rfl
    · exact absurd (by decide) ht
  · have h' : some (numV x.s.size) = some v := by simpa [opOf] using h
    cases h'
    rcases hx with e | e | e <;> rw [e] at ht ⊢
    · exact absurd (by decide) ht
    · exact absurd (by decide) ht
    · rfl
theorem op2_type {k : Int} {x y v : Tm} (hk : operandsOf k = 2) (hx : x.k = 1 ∨ x.k = 2 ∨ x.k = 3) (hy : y.k = 1 ∨ y.k = 2 ∨ y.k = 3) (ht : opTy k [x.k, y.k] ≠ 0) (h : opOf k x y = some v) : v.k = opTy k [x.k, y.k] := by
  have hvk : (k = 8 ∧ v.k = x.k) ∨ ((k = 9 ∨ k = 10 ∨ k = 11 ∨ k = 12) ∧ v.k = 1) ∨ ((k = 13 ∨ k = 14 ∨ k = 15 ∨ k = 16) ∧ v.k = 2) := by
    rcases kinds2 hk with rfl | rfl | rfl | rfl | rfl | rfl | rfl | rfl | rfl
    · left; refine ⟨rfl, ?_⟩
      have h' : some (⟨x.k, x.n + y.n, x.s ++ y.s⟩ : Tm) = some v := by simpa [opOf] using h
      cases h'; rfl
    · right; left; refine ⟨by simp, ?_⟩
      have h' : some (numV (x.n - y.n)) = some v := by simpa [opOf] using h
      cases h'; rfl
    · right; left; refine ⟨by simp, ?_⟩
      simp only [opOf] at h
      simp at h
      obtain ⟨_, h⟩ := h
      rw [← h]; rfl
    · right; left; refine ⟨by simp, ?_⟩
      simp only [opOf] at h
      simp at h
      obtain ⟨_, h⟩ := h
      rw [← h]; rfl
    · right; left; refine ⟨by simp, ?_⟩
      simp only [opOf] at h
      simp at h
      obtain ⟨_, h⟩ := h
      rw [← h]; rfl
    · right; right; refine ⟨by simp, ?_⟩
      simp only [opOf] at h
      simp at h
      rw [← h]; exact truthV_k _
    · right; right; refine ⟨by simp, ?_⟩
      simp only [opOf] at h
      simp at h
      rw [← h]; exact truthV_k _
    · right; right; refine ⟨by simp, ?_⟩
      simp only [opOf] at h
      simp at h
      rw [← h]; exact truthV_k _
    · right; right; refine ⟨by simp, ?_⟩
      simp only [opOf] at h
      simp at h
      rw [← h]; exact truthV_k _
  clear h hk
  rcases hvk with ⟨rfl, e⟩ | ⟨hk, e⟩ | ⟨hk, e⟩
  · rw [e]
    rcases hx with ex | ex | ex <;> rcases hy with ey | ey | ey <;> rw [ex, ey] at ht ⊢ <;> first | rfl | exact absurd (by decide) ht
  · rw [e]
    rcases hk with rfl | rfl | rfl | rfl <;> rcases hx with ex | ex | ex <;> rcases hy with ey | ey | ey <;> rw [ex, ey] at ht ⊢ <;> first | rfl | exact absurd (by decide) ht
  · rw [e]
    rcases hk with rfl | rfl | rfl | rfl <;> rcases hx with ex | ex | ex <;> rcases hy with ey | ey | ey <;> rw [ex, ey] at ht ⊢ <;> first | rfl | exact absurd (by decide) ht
theorem tr_type {x y z : Int} (hx : x = 1 ∨ x = 2 ∨ x = 3) (hy : y = 1 ∨ y = 2 ∨ y = 3) (hz : z = 1 ∨ z = 2 ∨ z = 3) (ht : opTy 17 [x, y, z] ≠ 0) : x = 2 ∧ opTy 17 [x, y, z] = y ∧ z = y := by
  rcases hx with rfl | rfl | rfl <;> rcases hy with rfl | rfl | rfl <;> rcases hz with rfl | rfl | rfl <;> first | exact ⟨rfl, rfl, rfl⟩ | exact absurd (by decide) ht
theorem ty_cases {f : Fm} (h : ty f ≠ 0) : ty f = 1 ∨ ty f = 2 ∨ ty f = 3 := by
  have := ty_range f
  omega
/-- Every name has a value of its type. -/
def EnvTy (env : ByteArray → Tm) (f : Fm) : Prop := ∀ t ∈ f.flat, t.k = 4 → (env t.s).k = typeOf t.s.data.toList
theorem val_type {env : ByteArray → Tm} : ∀ (f : Fm) (v : Tm), f.wf → EnvTy env f → ty f ≠ 0 → val env f = some v → v.k = ty f
  | .lf t, v, hw, he, ht, h => by
    simp only [val, Option.some.injEq] at h
    subst h
    have e : ty (.lf t) = typedOf t [] := rfl
    rw [e]
    by_cases h4 : t.k = 4
    · rw [if_pos h4, he t (by simp [Fm.flat]) h4]
      unfold typedOf
      rw [if_neg (by omega), if_pos h4]
    · rw [if_neg h4]
      have := kinds4 hw.2
      unfold typedOf
      rw [if_pos (by omega)]
  | .un t a, v, hw, he, ht, h => by
    have ha : ty a ≠ 0 := by intro e; apply ht; show (if ty a = 0 then 0 else _) = 0; rw [if_pos e]
    have hty : ty (.un t a) = typedOf t [ty a] := by show (if ty a = 0 then 0 else typedOf t [ty a]) = _; rw [if_neg ha]
    have hk := kinds1 hw.2.1
    rw [hty, typed_op t _ (by omega)] at ht ⊢
    simp only [val, Option.bind_eq_some_iff] at h
    obtain ⟨x, hx, h⟩ := h
    have ex := val_type a x hw.2.2 (fun u hu => he u (by simp [Fm.flat, hu])) ha hx
    rw [← ex] at ht ⊢
    exact op1_type hk (by rw [ex]; exact ty_cases ha) ht (app_some h)
  | .bi t a b, v, hw, he, ht, h => by
    have hab : ¬ (ty a = 0 ∨ ty b = 0) := by intro e; apply ht; show (if ty a = 0 ∨ ty b = 0 then 0 else _) = 0; rw [if_pos e]
    have hty : ty (.bi t a b) = typedOf t [ty a, ty b] := by show (if ty a = 0 ∨ ty b = 0 then 0 else typedOf t [ty a, ty b]) = _; rw [if_neg hab]
    have hk := kinds2 hw.2.1
    rw [hty, typed_op t _ (by omega)] at ht ⊢
    simp only [val, Option.bind_eq_some_iff] at h
    obtain ⟨x, hx, y, hy, h⟩ := h
    have ha : ty a ≠ 0 := fun e => hab (.inl e)
    have hb : ty b ≠ 0 := fun e => hab (.inr e)
    have ex := val_type a x hw.2.2.1 (fun u hu => he u (by simp [Fm.flat, hu])) ha hx
    have ey := val_type b y hw.2.2.2 (fun u hu => he u (by simp [Fm.flat, hu])) hb hy
    rw [← ex, ← ey] at ht ⊢
    exact op2_type hw.2.1 (by rw [ex]; exact ty_cases ha) (by rw [ey]; exact ty_cases hb) ht (app_some h)
  | .tr t a b c, v, hw, he, ht, h => by
    have hab : ¬ (ty a = 0 ∨ ty b = 0 ∨ ty c = 0) := by intro e; apply ht; show (if ty a = 0 ∨ ty b = 0 ∨ ty c = 0 then 0 else _) = 0; rw [if_pos e]
    have hty : ty (.tr t a b c) = typedOf t [ty a, ty b, ty c] := by show (if ty a = 0 ∨ ty b = 0 ∨ ty c = 0 then 0 else typedOf t [ty a, ty b, ty c]) = _; rw [if_neg hab]
    have hk := kinds3 hw.2.1
    rw [hty, typed_op t _ (by omega), hk] at ht ⊢
    have ha : ty a ≠ 0 := fun e => hab (.inl e)
    have hb : ty b ≠ 0 := fun e => hab (.inr (.inl e))
    have hc : ty c ≠ 0 := fun e => hab (.inr (.inr e))
    obtain ⟨_, e2, e3⟩ := tr_type (ty_cases ha) (ty_cases hb) (ty_cases hc) ht
    rw [e2]
    simp only [val, Option.bind_eq_some_iff] at h
    obtain ⟨x, hx, h⟩ := h
    by_cases h1 : x.n = 1
    · rw [if_pos h1] at h
      exact val_type b v hw.2.2.2.1 (fun u hu => he u (by simp [Fm.flat, hu])) hb h
    · rw [if_neg h1] at h
      rw [val_type c v hw.2.2.2.2 (fun u hu => he u (by simp [Fm.flat, hu])) hc h, e3]
/-- The operands of a formula. -/
def kids : Fm → List Fm
  | .lf _ => []
  | .un _ a => [a]
  | .bi _ a b => [a, b]
  | .tr _ a b c => [a, b, c]
theorem flat_kids (f : Fm) : f.flat = f.hd :: flats (kids f) := by
  cases f <;> simp [Fm.flat, Fm.hd, kids, flats]
theorem kids_len {f : Fm} (h : f.wf) : ((kids f).length : Int) = operandsOf f.hd.k := by
  cases f with
  | lf t => exact h.2.symm
  | un t a => exact h.2.1.symm
  | bi t a b => exact h.2.1.symm
  | tr t a b c => exact h.2.1.symm
theorem kids_wf {f : Fm} (h : f.wf) : ∀ g ∈ kids f, g.wf ∧ g.depth ≤ f.depth := by
  cases f with
  | lf t => intro g hg; simp [kids] at hg
  | un t a => intro g hg; simp [kids] at hg; subst hg; exact ⟨h.2.2, by show g.depth ≤ g.depth + 1; omega⟩
  | bi t a b =>
    intro g hg; simp [kids] at hg
    rcases hg with rfl | rfl
    · exact ⟨h.2.2.1, by show g.depth ≤ max g.depth b.depth + 1; omega⟩
    · exact ⟨h.2.2.2, by show g.depth ≤ max a.depth g.depth + 1; omega⟩
  | tr t a b c =>
    intro g hg; simp [kids] at hg
    rcases hg with rfl | rfl | rfl
    · exact ⟨h.2.2.1, by show g.depth ≤ max g.depth (max b.depth c.depth) + 1; omega⟩
    · exact ⟨h.2.2.2.1, by show g.depth ≤ max a.depth (max g.depth c.depth) + 1; omega⟩
    · exact ⟨h.2.2.2.2, by show g.depth ≤ max a.depth (max b.depth g.depth) + 1; omega⟩
theorem kids_ty {f : Fm} (h : ty f ≠ 0) : ∀ g ∈ kids f, ty g ≠ 0 := by
  cases f with
  | lf t => intro g hg; simp [kids] at hg
  | un t a => intro g hg; simp [kids] at hg; subst hg; intro e; apply h; show (if ty g = 0 then 0 else _) = 0; rw [if_pos e]
  | bi t a b =>
    intro g hg; simp [kids] at hg
    rcases hg with rfl | rfl
    · intro e; apply h; show (if ty g = 0 ∨ ty b = 0 then 0 else _) = 0; rw [if_pos (.inl e)]
    · intro e; apply h; show (if ty a = 0 ∨ ty g = 0 then 0 else _) = 0; rw [if_pos (.inr e)]
  | tr t a b c =>
    intro g hg; simp [kids] at hg
    rcases hg with rfl | rfl | rfl
    · intro e; apply h; show (if ty g = 0 ∨ ty b = 0 ∨ ty c = 0 then 0 else _) = 0; rw [if_pos (.inl e)]
    · intro e; apply h; show (if ty a = 0 ∨ ty g = 0 ∨ ty c = 0 then 0 else _) = 0; rw [if_pos (.inr (.inl e))]
    · intro e; apply h; show (if ty a = 0 ∨ ty b = 0 ∨ ty g = 0 then 0 else _) = 0; rw [if_pos (.inr (.inr e))]
/-- What begins as a formula is a valid formula where that ends, and nowhere before. -/
theorem ends_at {g : Fm} {r : List Tm} {m : Nat} (hw : g.wf) (hd : g.depth ≤ 12) (hl : g.flat.length ≤ 60) (hm : m ≤ g.flat.length) : validB ((g.flat ++ r).take m) = decide (m = g.flat.length) := by
  by_cases e : m = g.flat.length
  · subst e
    rw [List.take_left, valid_of hw hd hl]; simp
  · rw [decide_eq_false e]
    cases hv : validB ((g.flat ++ r).take m) with
    | false => rfl
    | true =>
      obtain ⟨_, h, hh, _, he⟩ := (validB_iff _).1 hv
      have h1 : (g.flat ++ r).take m = g.flat.take m := by rw [List.take_append_of_le_length hm]
      rw [h1] at he
      have h2 : g.flat ++ [] = h.flat ++ g.flat.drop m := by rw [← he, List.take_append_drop, List.append_nil]
      obtain ⟨rfl, h3⟩ := flat_inj g h [] (g.flat.drop m) (wf_shape g hw) (wf_shape h hh) h2
      have := congrArg List.length he
      rw [List.length_take] at this
      omega
end Pl
end Go.Proofs.YtchoelgkcnnnkaaGreatDoor
