/- PLAIN LAWS: the value of a formula has its type; nothing is wrong in a formula with a type; where an operand ends. · PLAIN LAWS: a formula put in the place of a name: its shape, type, names and value. -/
import Derived.Test.YtchoelgkcnnnkaaGreatDoorParseD
import Derived.Test.YtchoelgkcnnnkaaGreatDoorValJ
set_option linter.all false
namespace Go.Proofs.YtchoelgkcnnnkaaGreatDoor
open Go.RowKit
namespace Pl
theorem wrongAt_none : ∀ (f : Fm) (i w : Int), ty f ≠ 0 → wrongAt f i w = w
  | .lf _, i, w, _ => rfl
  | .un t a, i, w, h => by
    have ha : ty a ≠ 0 := by intro e; apply h; show (if ty a = 0 then 0 else _) = 0; rw [if_pos e]
    have ht : typedOf t [ty a] ≠ 0 := by
      intro e; apply h; show (if ty a = 0 then 0 else typedOf t [ty a]) = 0; rw [if_neg ha, e]
    have e1 := wrongAt_none a (i + 1) w ha
    show (if ty a ≠ 0 ∧ typedOf t [ty a] = 0 then max (wrongAt a (i + 1) w) i else wrongAt a (i + 1) w) = w
    rw [if_neg (by intro hh; exact ht hh.2), e1]
  | .bi t a b, i, w, h => by
    have hab : ¬ (ty a = 0 ∨ ty b = 0) := by intro e; apply h; show (if ty a = 0 ∨ ty b = 0 then 0 else _) = 0; rw [if_pos e]
    have ht : typedOf t [ty a, ty b] ≠ 0 := by
      intro e; apply h; show (if ty a = 0 ∨ ty b = 0 then 0 else typedOf t [ty a, ty b]) = 0; rw [if_neg hab, e]
    have e1 := wrongAt_none a (i + 1) w (fun e => hab (.inl e))
    have e2 := wrongAt_none b (i + 1 + a.flat.length) w (fun e => hab (.inr e))
    show (if (ty a ≠ 0 ∧ ty b ≠ 0) ∧ typedOf t [ty a, ty b] = 0 then max (wrongAt b (i + 1 + a.flat.length) (wrongAt a (i + 1) w)) i else wrongAt b (i + 1 + a.flat.length) (wrongAt a (i + 1) w)) = w
    rw [if_neg (by intro hh; exact ht hh.2), e1, e2]
  | .tr t a b c, i, w, h => by
    have hab : ¬ (ty a = 0 ∨ ty b = 0 ∨ ty c = 0) := by intro e; apply h; show (if ty a = 0 ∨ ty b = 0 ∨ ty c = 0 then 0 else _) = 0; rw [if_pos e]
    have ht : typedOf t [ty a, ty b, ty c] ≠ 0 := by
      intro e; apply h; show (if ty a = 0 ∨ ty b = 0 ∨ ty c = 0 then 0 else typedOf t [ty a, ty b, ty c]) = 0; rw [if_neg hab, e]
    have e1 := wrongAt_none a (i + 1) w (fun e => hab (.inl e))
    have e2 := wrongAt_none b (i + 1 + a.flat.length) w (fun e => hab (.inr (.inl e)))
    have e3 := wrongAt_none c (i + 1 + a.flat.length + b.flat.length) w (fun e => hab (.inr (.inr e)))
    show (if (ty a ≠ 0 ∧ ty b ≠ 0 ∧ ty c ≠ 0) ∧ typedOf t [ty a, ty b, ty c] = 0 then max (wrongAt c (i + 1 + a.flat.length + b.flat.length) (wrongAt b (i + 1 + a.flat.length) (wrongAt a (i + 1) w))) i else wrongAt c (i + 1 + a.flat.length + b.flat.length) (wrongAt b (i + 1 + a.flat.length) (wrongAt a (i + 1) w))) = w
    rw [if_neg (by intro hh; exact ht hh.2), e1, e2, e3]
theorem kinds4 {k : Int} (h : operandsOf k = 0) : k = 1 ∨ k = 2 ∨ k = 3 ∨ k = 4 := by
  unfold operandsOf at h
  split at h
  · omega
  · split at h
    · omega
    · split at h
      · omega
      · split at h <;> omega
/-- The type that an operator's rules give. -/
def opTy (k : Int) (l : List Int) : Int := look (rulesOf k) (l.map letterOf)
theorem typed_op (t : Tm) (l : List Int) (h : 5 ≤ t.k) : typedOf t l = opTy t.k l := by
  unfold typedOf opTy
  rw [if_neg (by omega), if_neg (by omega)]
theorem app_some {k : Int} {x y v : Tm} (h : app k x y = some v) : opOf k x y = some v := by
  unfold app at h
  rw [Option.bind_eq_some_iff] at h
  obtain ⟨u, h1, h⟩ := h
  split at h
  · cases h; exact h1
  · cases h
theorem truthV_k (b : Bool) : (truthV b).k = 2 := by cases b <;> rfl
theorem op1_type {k : Int} {x v : Tm} (hk : k = 5 ∨ k = 6 ∨ k = 7) (hx : x.k = 1 ∨ x.k = 2 ∨ x.k = 3) (ht : opTy k [x.k] ≠ 0) (h : opOf k x zeroV = some v) : v.k = opTy k [x.k] := by
  rcases hk with rfl | rfl | rfl
  · simp only [opOf, if_true] at h
    cases h
    rcases hx with e | e | e <;> rw [e] at ht ⊢
    · rfl
    · exact absurd (by decide) ht
    · exact absurd (by decide) ht
  · have h' : some (truthV (decide (x.n = 0))) = some v := by simpa [opOf] using h
    cases h'
    rw [truthV_k]
    rcases hx with e | e | e <;> rw [e] at ht ⊢
    · exact absurd (by decide) ht
    · rfl
    · exact absurd (by decide) ht
  · have h' : some (numV x.s.size) = some v := by simpa [opOf] using h
    cases h'
    rcases hx with e | e | e <;> rw [e] at ht ⊢
    · exact absurd (by decide) ht
    · exact absurd (by decide) ht
    · rfl
theorem op2_type {k : Int} {x y v : Tm} (hk : operandsOf k = 2) (hx : x.k = 1 ∨ x.k = 2 ∨ x.k = 3) (hy : y.k = 1 ∨ y.k = 2 ∨ y.k = 3) (ht : opTy k [x.k, y.k] ≠ 0) (h : opOf k x y = some v) : v.k = opTy k [x.k, y.k] := by
  have hvk : (k = 8 ∧ v.k = x.k) ∨ ((k = 9 ∨ k = 10 ∨ k = 11 ∨ k = 12) ∧ v.k = 1) ∨ ((k = 13 ∨ k = 14 ∨ k = 15 ∨ k = 16) ∧ v.k = 2) := by
    rcases kinds2 hk with rfl | rfl | rfl | rfl | rfl | rfl | rfl | rfl | rfl
    · left; refine ⟨rfl, ?_⟩
      have h' : some (⟨x.k, x.n + y.n, x.s ++ y.s⟩ : Tm) = some v := by simpa [opOf] using h
      cases h'; rfl
    · right; left; refine ⟨by simp, ?_⟩
      have h' : some (numV (x.n - y.n)) = some v := by simpa [opOf] using h
      cases h'; rfl
    · right; left; refine ⟨by simp, ?_⟩
      simp only [opOf] at h
      simp at h
      obtain ⟨_, h⟩ := h
      rw [← h]; rfl
    · right; left; refine ⟨by simp, ?_⟩
      simp only [opOf] at h
      simp at h
      obtain ⟨_, h⟩ := h
      rw [← h]; rfl
    · right; left; refine ⟨by simp, ?_⟩
      simp only [opOf] at h
      simp at h
      obtain ⟨_, h⟩ := h
      rw [← h]; rfl
    · right; right; refine ⟨by simp, ?_⟩
      simp only [opOf] at h
      simp at h
      rw [← h]; exact truthV_k _
    · right; right; refine ⟨by simp, ?_⟩
      simp only [opOf] at h
      simp at h
      rw [← h]; exact truthV_k _
    · right; right; refine ⟨by simp, ?_⟩
      simp only [opOf] at h
      simp at h
      rw [← h]; exact truthV_k _
    · right; right; refine ⟨by simp, ?_⟩
      simp only [opOf] at h
      simp at h
      rw [← h]; exact truthV_k _
  clear h hk
  rcases hvk with ⟨rfl, e⟩ | ⟨hk, e⟩ | ⟨hk, e⟩
  · rw [e]
    rcases hx with ex | ex | ex <;> rcases hy with ey | ey | ey <;> rw [ex, ey] at ht ⊢ <;> first | rfl | exact absurd (by decide) ht
  · rw [e]
    rcases hk with rfl | rfl | rfl | rfl <;> rcases hx with ex | ex | ex <;> rcases hy with ey | ey | ey <;> rw [ex, ey] at ht ⊢ <;> first | rfl | exact absurd (by decide) ht
  · rw [e]
    rcases hk with rfl | rfl | rfl | rfl <;> rcases hx with ex | ex | ex <;> rcases hy with ey | ey | ey <;> rw [ex, ey] at ht ⊢ <;> first | rfl | exact absurd (by decide) ht
theorem tr_type {x y z : Int} (hx : x = 1 ∨ x = 2 ∨ x = 3) (hy : y = 1 ∨ y = 2 ∨ y = 3) (hz : z = 1 ∨ z = 2 ∨ z = 3) (ht : opTy 17 [x, y, z] ≠ 0) : x = 2 ∧ opTy 17 [x, y, z] = y ∧ z = y := by
  rcases hx with rfl | rfl | rfl <;> rcases hy with rfl | rfl | rfl <;> rcases hz with rfl | rfl | rfl <;> first | exact ⟨rfl, rfl, rfl⟩ | exact absurd (by decide) ht
theorem ty_cases {f : Fm} (h : ty f ≠ 0) : ty f = 1 ∨ ty f = 2 ∨ ty f = 3 := by
  have := ty_range f
  omega
/-- Every name has a value of its type. -/
def EnvTy (env : ByteArray → Tm) (f : Fm) : Prop := ∀ t ∈ f.flat, t.k = 4 → (env t.s).k = typeOf t.s.data.toList
theorem val_type {env : ByteArray → Tm} : ∀ (f : Fm) (v : Tm), f.wf → EnvTy env f → ty f ≠ 0 → val env f = some v → v.k = ty f
  | .lf t, v, hw, he, ht, h => by
    simp only [val, Option.some.injEq] at h
    subst h
    have e : ty (.lf t) = typedOf t [] := rfl
    rw [e]
    by_cases h4 : t.k = 4
    · rw [if_pos h4, he t (by simp [Fm.flat]) h4]
      unfold typedOf
      rw [if_neg (by omega), if_pos h4]
    · rw [if_neg h4]
      have := kinds4 hw.2
      unfold typedOf
      rw [if_pos (by omega)]
  | .un t a, v, hw, he, ht, h => by
    have ha : ty a ≠ 0 := by intro e; apply ht; show (if ty a = 0 then 0 else _) = 0; rw [if_pos e]
    have hty : ty (.un t a) = typedOf t [ty a] := by show (if ty a = 0 then 0 else typedOf t [ty a]) = _; rw [if_neg ha]
    have hk := kinds1 hw.2.1
    rw [hty, typed_op t _ (by omega)] at ht ⊢
    simp only [val, Option.bind_eq_some_iff] at h
    obtain ⟨x, hx, h⟩ := h
    have ex := val_type a x hw.2.2 (fun u hu => he u (by simp [Fm.flat, hu])) ha hx
    rw [← ex] at ht ⊢
    exact op1_type hk (by rw [ex]; exact ty_cases ha) ht (app_some h)
  | .bi t a b, v, hw, he, ht, h => by
    have hab : ¬ (ty a = 0 ∨ ty b = 0) := by intro e; apply ht; show (if ty a = 0 ∨ ty b = 0 then 0 else _) = 0; rw [if_pos e]
    have hty : ty (.bi t a b) = typedOf t [ty a, ty b] := by show (if ty a = 0 ∨ ty b = 0 then 0 else typedOf t [ty a, ty b]) = _; rw [if_neg hab]
    have hk := kinds2 hw.2.1
    rw [hty, typed_op t _ (by omega)] at ht ⊢
    simp only [val, Option.bind_eq_some_iff] at h
    obtain ⟨x, hx, y, hy, h⟩ := h
    have ha : ty a ≠ 0 := fun e => hab (.inl e)
    have hb : ty b ≠ 0 := fun e => hab (.inr e)
    have ex := val_type a x hw.2.2.1 (fun u hu => he u (by simp [Fm.flat, hu])) ha hx
    have ey := val_type b y hw.2.2.2 (fun u hu => he u (by simp [Fm.flat, hu])) hb hy
    rw [← ex, ← ey] at ht ⊢
    exact op2_type hw.2.1 (by rw [ex]; exact ty_cases ha) (by rw [ey]; exact ty_cases hb) ht (app_some h)
  | .tr t a b c, v, hw, he, ht, h => by
    have hab : ¬ (ty a = 0 ∨ ty b = 0 ∨ ty c = 0) := by intro e; apply ht; show (if ty a = 0 ∨ ty b = 0 ∨ ty c = 0 then 0 else _) = 0; rw [if_pos e]
    have hty : ty (.tr t a b c) = typedOf t [ty a, ty b, ty c] := by show (if ty a = 0 ∨ ty b = 0 ∨ ty c = 0 then 0 else typedOf t [ty a, ty b, ty c]) = _; rw [if_neg hab]
    have hk := kinds3 hw.2.1
    rw [hty, typed_op t _ (by omega), hk] at ht ⊢
    have ha : ty a ≠ 0 := fun e => hab (.inl e)
    have hb : ty b ≠ 0 := fun e => hab (.inr (.inl e))
    have hc : ty c ≠ 0 := fun e => hab (.inr (.inr e))
    obtain ⟨_, e2, e3⟩ := tr_type (ty_cases ha) (ty_cases hb) (ty_cases hc) ht
    rw [e2]
    simp only [val, Option.bind_eq_some_iff] at h
    obtain ⟨x, hx, h⟩ := h
    by_cases h1 : x.n = 1
    · rw [if_pos h1] at h
      exact val_type b v hw.2.2.2.1 (fun u hu => he u (by simp [Fm.flat, hu])) hb h
    · rw [if_neg h1] at h
      rw [val_type c v hw.2.2.2.2 (fun u hu => he u (by simp [Fm.flat, hu])) hc h, e3]
/-- The operands of a formula. -/
def kids : Fm → List Fm
  | .lf _ => []
  | .un _ a => [a]
  | .bi _ a b => [a, b]
  | .tr _ a b c => [a, b, c]
theorem flat_kids (f : Fm) : f.flat = f.hd :: flats (kids f) := by
  cases f <;> simp [Fm.flat, Fm.hd, kids, flats]
theorem kids_len {f : Fm} (h : f.wf) : ((kids f).length : Int) = operandsOf f.hd.k := by
  cases f with
  | lf t => exact h.2.symm
  | un t a => exact h.2.1.symm
  | bi t a b => exact h.2.1.symm
  | tr t a b c => exact h.2.1.symm
theorem kids_wf {f : Fm} (h : f.wf) : ∀ g ∈ kids f, g.wf ∧ g.depth ≤ f.depth := by
  cases f with
  | lf t => intro g hg; simp [kids] at hg
  | un t a => intro g hg; simp [kids] at hg; subst hg; exact ⟨h.2.2, by show g.depth ≤ g.depth + 1; omega⟩
  | bi t a b =>
    intro g hg; simp [kids] at hg
    rcases hg with rfl | rfl
    · exact ⟨h.2.2.1, by show g.depth ≤ max g.depth b.depth + 1; omega⟩
    · exact ⟨h.2.2.2, by show g.depth ≤ max a.depth g.depth + 1; omega⟩
  | tr t a b c =>
    intro g hg; simp [kids] at hg
    rcases hg with rfl | rfl | rfl
    · exact ⟨h.2.2.1, by show g.depth ≤ max g.depth (max b.depth c.depth) + 1; omega⟩
    · exact ⟨h.2.2.2.1, by show g.depth ≤ max a.depth (max g.depth c.depth) + 1; omega⟩
    · exact ⟨h.2.2.2.2, by show g.depth ≤ max a.depth (max b.depth g.depth) + 1; omega⟩
theorem kids_ty {f : Fm} (h : ty f ≠ 0) : ∀ g ∈ kids f, ty g ≠ 0 := by
  cases f with
  | lf t => intro g hg; simp [kids] at hg
  | un t a => intro g hg; simp [kids] at hg; subst hg; intro e; apply h; show (if ty g = 0 then 0 else _) = 0; rw [if_pos e]
  | bi t a b =>
    intro g hg; simp [kids] at hg
    rcases hg with rfl | rfl
    · intro e; apply h; show (if ty g = 0 ∨ ty b = 0 then 0 else _) = 0; rw [if_pos (.inl e)]
    · intro e; apply h; show (if ty a = 0 ∨ ty g = 0 then 0 else _) = 0; rw [if_pos (.inr e)]
  | tr t a b c =>
    intro g hg; simp [kids] at hg
    rcases hg with rfl | rfl | rfl
    · intro e; apply h; show (if ty g = 0 ∨ ty b = 0 ∨ ty c = 0 then 0 else _) = 0; rw [if_pos (.inl e)]
    · intro e; apply h; show (if ty a = 0 ∨ ty g = 0 ∨ ty c = 0 then 0 else _) = 0; rw [if_pos (.inr (.inl e))]
    · intro e; apply h; show (if ty a = 0 ∨ ty b = 0 ∨ ty g = 0 then 0 else _) = 0; rw [if_pos (.inr (.inr e))]
/-- What begins as a formula is a valid formula where that ends, and nowhere before. -/
theorem ends_at {g : Fm} {r : List Tm} {m : Nat} (hw : g.wf) (hd : g.depth ≤ 12) (hl : g.flat.length ≤ 60) (hm : m ≤ g.flat.length) : validB ((g.flat ++ r).take m) = decide (m = g.flat.length) := by
  by_cases e : m = g.flat.length
  · subst e
    rw [List.take_left, valid_of hw hd hl]; simp
  · rw [decide_eq_false e]
    cases hv : validB ((g.flat ++ r).take m) with
    | false => rfl
    | true =>
      obtain ⟨_, h, hh, _, he⟩ := (validB_iff _).1 hv
      have h1 : (g.flat ++ r).take m = g.flat.take m := by rw [List.take_append_of_le_length hm]
      rw [h1] at he
      have h2 : g.flat ++ [] = h.flat ++ g.flat.drop m := by rw [← he, List.take_append_drop, List.append_nil]
      obtain ⟨rfl, h3⟩ := flat_inj g h [] (g.flat.drop m) (wf_shape g hw) (wf_shape h hh) h2
      have := congrArg List.length he
      rw [List.length_take] at this
      omega
end Pl
end Go.Proofs.YtchoelgkcnnnkaaGreatDoor
set_option linter.all false
namespace Go.Proofs.YtchoelgkcnnnkaaGreatDoor
open Go.RowKit
namespace Pl
/-- Is a term this name? -/
def isN (N : ByteArray) (u : Tm) : Bool := decide (u.k = 4) && decide (u.n = 0) && decide (u.s = N)
theorem isN_iff {N : ByteArray} {u : Tm} : isN N u = true ↔ u = ⟨4, 0, N⟩ := by
  unfold isN
  constructor
  · intro h
    simp at h
    exact Tm.ext' h.1.1 h.1.2 h.2
  · rintro rfl; simp
def subL (N : ByteArray) (g : Fm) (ts : List Tm) : List Tm := ts.flatMap fun u => if isN N u = true then g.flat else [u]
def subF (N : ByteArray) (g : Fm) : Fm → Fm
  | .lf t => if isN N t = true then g else .lf t
  | .un t a => .un t (subF N g a)
  | .bi t a b => .bi t (subF N g a) (subF N g b)
  | .tr t a b c => .tr t (subF N g a) (subF N g b) (subF N g c)
theorem not_isN {N : ByteArray} {u : Tm} (h : operandsOf u.k ≠ 0) : ¬ isN N u = true := by
  rw [isN_iff]
  rintro rfl
  exact h rfl
theorem subL_append (N : ByteArray) (g : Fm) (a b : List Tm) : subL N g (a ++ b) = subL N g a ++ subL N g b := by simp [subL]
theorem subL_cons (N : ByteArray) (g : Fm) (u : Tm) (r : List Tm) : subL N g (u :: r) = (if isN N u = true then g.flat else [u]) ++ subL N g r := by simp [subL]
theorem sub_flat (N : ByteArray) (g : Fm) : ∀ f : Fm, Shape f → (subF N g f).flat = subL N g f.flat
  | .lf t, h => by
    rw [subF, Fm.flat, subL_cons]
    by_cases e : isN N t = true
    · rw [if_pos e, if_pos e]; simp [subL]
    · rw [if_neg e, if_neg e]; simp [subL, Fm.flat]
  | .un t a, h => by
    have e := not_isN (N := N) (u := t) (by rw [h.1]; decide)
    rw [Fm.flat, subL_cons, if_neg e, ← sub_flat N g a h.2]; rfl
  | .bi t a b, h => by
    have e := not_isN (N := N) (u := t) (by rw [h.1]; decide)
    rw [Fm.flat, subL_cons, if_neg e, subL_append, ← sub_flat N g a h.2.1, ← sub_flat N g b h.2.2]; rfl
  | .tr t a b c, h => by
    have e := not_isN (N := N) (u := t) (by rw [h.1]; decide)
    rw [Fm.flat, subL_cons, if_neg e, subL_append, subL_append, ← sub_flat N g a h.2.1, ← sub_flat N g b h.2.2.1, ← sub_flat N g c h.2.2.2]; rfl
theorem sub_wf (N : ByteArray) {g : Fm} (hg : g.wf) : ∀ f : Fm, f.wf → (subF N g f).wf
  | .lf t, h => by
    rw [subF]
    by_cases e : isN N t = true
    · rw [if_pos e]; exact hg
    · rw [if_neg e]; exact h
  | .un t a, h => ⟨h.1, h.2.1, sub_wf N hg a h.2.2⟩
  | .bi t a b, h => ⟨h.1, h.2.1, sub_wf N hg a h.2.2.1, sub_wf N hg b h.2.2.2⟩
  | .tr t a b c, h => ⟨h.1, h.2.1, sub_wf N hg a h.2.2.1, sub_wf N hg b h.2.2.2.1, sub_wf N hg c h.2.2.2.2⟩
theorem sub_ty (N : ByteArray) {g : Fm} (hg : ty g = typeOf N.data.toList) : ∀ f : Fm, ty (subF N g f) = ty f
  | .lf t => by
    rw [subF]
    by_cases e : isN N t = true
    · rw [if_pos e]
      rw [isN_iff] at e
      subst e
      rw [hg]; rfl
    · rw [if_neg e]
  | .un t a => by
    have ea := sub_ty N hg a
    show (if ty (subF N g a) = 0 then 0 else typedOf t [ty (subF N g a)]) = (if ty a = 0 then 0 else typedOf t [ty a])
    rw [ea]
  | .bi t a b => by
    have ea := sub_ty N hg a
    have eb := sub_ty N hg b
    show (if ty (subF N g a) = 0 ∨ ty (subF N g b) = 0 then 0 else typedOf t [ty (subF N g a), ty (subF N g b)]) = (if ty a = 0 ∨ ty b = 0 then 0 else typedOf t [ty a, ty b])
    rw [ea, eb]
  | .tr t a b c => by
    have ea := sub_ty N hg a
    have eb := sub_ty N hg b
    have ec := sub_ty N hg c
    show (if ty (subF N g a) = 0 ∨ ty (subF N g b) = 0 ∨ ty (subF N g c) = 0 then 0 else typedOf t [ty (subF N g a), ty (subF N g b), ty (subF N g c)]) = (if ty a = 0 ∨ ty b = 0 ∨ ty c = 0 then 0 else typedOf t [ty a, ty b, ty c])
    rw [ea, eb, ec]
/-- No term is a name. -/
def NoNames (ts : List Tm) : Prop := ∀ t ∈ ts, t.k ≠ 4
theorem noNames_of {ts : List Tm} (h : namesOf ts = []) : NoNames ts := fun t ht h4 => by
  have := namesOf_mem ht h4
  rw [h] at this
  cases this
theorem fold_noNames : ∀ (ts : List Tm) (acc : List ByteArray), NoNames ts → ts.foldl nameStep acc = acc
  | [], acc, _ => rfl
  | u :: r, acc, h => by
    rw [List.foldl_cons]
    have e : nameStep acc u = acc := by unfold nameStep; rw [if_neg (by intro hh; exact h u (by simp) hh.1)]
    rw [e]
    exact fold_noNames r acc fun t ht => h t (by simp [ht])
theorem contains_false {l : List ByteArray} {s : ByteArray} : Lib.containsS l s = false ↔ s ∉ l := by
  constructor
  · intro h hm
    rw [(Lib.containsS_iff l s).2 hm] at h; cases h
  · intro h
    cases e : Lib.containsS l s with
    | false => rfl
    | true => exact absurd ((Lib.containsS_iff l s).1 e) h
def neN (N : ByteArray) (s : ByteArray) : Bool := decide (s ≠ N)
theorem sub_fold (N : ByteArray) {g : Fm} (hg : NoNames g.flat) : ∀ (ts : List Tm) (acc : List ByteArray), (∀ t ∈ ts, formed t = true) → (subL N g ts).foldl nameStep (acc.filter (neN N)) = (ts.foldl nameStep acc).filter (neN N)
  | [], acc, _ => rfl
  | u :: r, acc, hf => by
    have ih := fun a => sub_fold N hg r a fun t ht => hf t (by simp [ht])
    rw [subL_cons, List.foldl_append, List.foldl_cons]
    by_cases e : isN N u = true
    · rw [if_pos e, fold_noNames _ _ hg, ← ih]
      congr 1
      rw [isN_iff] at e
      subst e
      unfold nameStep
      split
      · rw [List.filter_append]
        have : List.filter (neN N) [N] = [] := by simp [neN]
        show List.filter (neN N) acc = List.filter (neN N) acc ++ List.filter (neN N) [N]
        rw [this, List.append_nil]
      · rfl
    · rw [if_neg e, ← ih]
      congr 1
      rw [List.foldl_cons, List.foldl_nil]
      unfold nameStep
      by_cases h4 : u.k = 4
      · have hn : u.s ≠ N := by
          intro hs
          apply e
          rw [isN_iff]
          have hfu := hf u (by simp)
          unfold formed at hfu
          rw [if_neg (by omega), if_neg (by omega), if_neg (by omega), if_pos h4] at hfu
          simp at hfu
          exact Tm.ext' h4 hfu.1 hs
        have hiff : Lib.containsS (acc.filter (neN N)) u.s = Lib.containsS acc u.s := by
          rw [Bool.eq_iff_iff, Lib.containsS_iff, Lib.containsS_iff, List.mem_filter]
          exact ⟨fun h => h.1, fun h => ⟨h, by simp [neN, hn]⟩⟩
        rw [hiff]
        by_cases hc : Lib.containsS acc u.s = false
        · rw [if_pos ⟨h4, hc⟩, if_pos ⟨h4, hc⟩, List.filter_append]
          congr 1
          simp [neN, hn]
        · rw [if_neg (by intro hh; exact hc hh.2), if_neg (by intro hh; exact hc hh.2)]
      · rw [if_neg (by intro hh; exact h4 hh.1), if_neg (by intro hh; exact h4 hh.1)]
/-- The names of the whole are those of the formula, but for the one that is gone. -/
theorem sub_names {N : ByteArray} {g f : Fm} {r : List ByteArray} (hg : NoNames g.flat) (hw : f.wf) (hn : namesOf f.flat = N :: r) : namesOf (subF N g f).flat = r := by
  have h := sub_fold N hg f.flat [] (wf_formed f hw)
  rw [sub_flat N g f (wf_shape f hw)]
  unfold namesOf at hn ⊢
  rw [hn] at h
  have hnd := namesOf_nodup f.flat
  unfold namesOf at hnd
  rw [hn, List.nodup_cons] at hnd
  have h2 : List.filter (neN N) (N :: r) = r := by
    rw [List.filter_cons]
    have : neN N N = false := by simp [neN]
    rw [this]
    simp only [Bool.false_eq_true, if_false]
    rw [List.filter_eq_self]
    intro s hs
    simp only [neN, decide_eq_true_eq]
    rintro rfl
    exact hnd.1 hs
  rw [h2] at h
  exact h
theorem val_env {e e' : ByteArray → Tm} : ∀ f : Fm, (∀ t ∈ f.flat, t.k = 4 → e t.s = e' t.s) → val e f = val e' f
  | .lf t, h => by
    rw [val, val]
    by_cases h4 : t.k = 4
    · rw [if_pos h4, if_pos h4, h t (by simp [Fm.flat]) h4]
    · rw [if_neg h4, if_neg h4]
  | .un t a, h => by rw [val, val, val_env a fun u hu => h u (by simp [Fm.flat, hu])]
  | .bi t a b, h => by rw [val, val, val_env a fun u hu => h u (by simp [Fm.flat, hu]), val_env b fun u hu => h u (by simp [Fm.flat, hu])]
  | .tr t a b c, h => by rw [val, val, val_env a fun u hu => h u (by simp [Fm.flat, hu]), val_env b fun u hu => h u (by simp [Fm.flat, hu]), val_env c fun u hu => h u (by simp [Fm.flat, hu])]
theorem sub_val {N : ByteArray} {g : Fm} {v : Tm} {e e' : ByteArray → Tm} (hv : val e' g = some v) (hN : e N = v) : ∀ f : Fm, f.wf → (∀ t ∈ f.flat, t.k = 4 → t.s ≠ N → e t.s = e' t.s) → val e' (subF N g f) = val e f
  | .lf t, hw, h => by
    rw [subF]
    by_cases q : isN N t = true
    · rw [if_pos q, hv]
      rw [isN_iff] at q
      subst q
      rw [val, if_pos rfl, hN]
    · rw [if_neg q, val, val]
      by_cases h4 : t.k = 4
      · rw [if_pos h4, if_pos h4, h t (by simp [Fm.flat]) h4]
        intro hs
        apply q
        rw [isN_iff]
        have hfu := hw.1
        unfold formed at hfu
        rw [if_neg (by omega), if_neg (by omega), if_neg (by omega), if_pos h4] at hfu
        simp at hfu
        exact Tm.ext' h4 hfu.1 hs
      · rw [if_neg h4, if_neg h4]
  | .un t a, hw, h => by rw [subF, val, val, sub_val hv hN a hw.2.2 fun u hu => h u (by simp [Fm.flat, hu])]
  | .bi t a b, hw, h => by rw [subF, val, val, sub_val hv hN a hw.2.2.1 fun u hu => h u (by simp [Fm.flat, hu]), sub_val hv hN b hw.2.2.2 fun u hu => h u (by simp [Fm.flat, hu])]
  | .tr t a b c, hw, h => by rw [subF, val, val, sub_val hv hN a hw.2.2.1 fun u hu => h u (by simp [Fm.flat, hu]), sub_val hv hN b hw.2.2.2.1 fun u hu => h u (by simp [Fm.flat, hu]), sub_val hv hN c hw.2.2.2.2 fun u hu => h u (by simp [Fm.flat, hu])]
/-- FormulaPut without its program. -/
theorem put_law {N : ByteArray} {g f : Fm} {r : List ByteArray} {v : Tm} {vs : List Tm} (hg : NoNames g.flat) (hw : f.wf) (hn : namesOf f.flat = N :: r) (hv : val (envOf [] []) g = some v) :
    val (envOf r vs) (subF N g f) = val (envOf (N :: r) (v :: vs)) f := by
  refine sub_val (v := v) (e := envOf (N :: r) (v :: vs)) ?_ (by simp [envOf]) f hw fun t ht h4 hs => ?_
  · rw [← hv]
    exact val_env g fun u hu h4 => absurd h4 (hg u hu)
  · show (if N = t.s then v else envOf r vs t.s) = envOf r vs t.s
    rw [if_neg (fun e => hs e.symm)]
end Pl
end Go.Proofs.YtchoelgkcnnnkaaGreatDoor
