/- PLAIN FACTS: the formulas that integers determine: which kinds and types are chosen, and what comes of it. -/
import Derived.Test.YtchoelgkcnnnkaaGreatDoorGrB
set_option linter.all false
namespace Go.Proofs.YtchoelgkcnnnkaaGreatDoor
open Go.RowKit
namespace Pl
/-- The kind of a term with operands that is chosen for a type. -/
def kind9 (t k : Int) : Int :=
  if t = 1 then (if k = 0 then 5 else if k = 1 then 8 else if k = 2 then 9 else if k = 3 then 10 else if k = 4 then 11 else if k = 5 then 12 else if k = 6 then 7 else 17)
  else if t = 2 then (if k = 0 then 6 else if k = 1 then 15 else if k = 2 then 16 else if k < 6 then 13 else if k < 8 then 14 else 17)
  else if k < 6 then 8 else 17
/-- The types of its operands. -/
def types9 (t k : Int) : List Int :=
  if t = 1 then (if k = 0 then [1] else if k < 6 then [1, 1] else if k = 6 then [3] else [2, 1, 1])
  else if t = 2 then (if k = 0 then [2] else if k < 4 then [2, 2] else if k = 4 then [1, 1] else if k = 5 then [3, 3] else if k = 6 then [1, 1] else if k = 7 then [3, 3] else [2, 2, 2])
  else if k < 6 then [3, 3] else [2, 3, 3]
def node (kd : Int) : List Fm → Fm
  | [a] => .un (mk0 kd) a
  | [a, b] => .bi (mk0 kd) a b
  | [a, b, c] => .tr (mk0 kd) a b c
  | _ => .lf (mk0 kd)
structure Grown (t : Int) (deep used : Nat) (f : Fm) : Prop where
  wf : f.wf
  ty : ty f = t
  depth : f.depth ≤ deep
  len : f.flat.length ≤ 1 + 3 * used
  small : ∀ u ∈ f.flat, u.s.size ≤ 3
structure GrownL (tys : List Int) (deep used : Nat) (fs : List Fm) : Prop where
  wf : ∀ f ∈ fs, f.wf
  ty : fs.map ty = tys
  depth : ∀ f ∈ fs, f.depth ≤ deep
  len : (flats fs).length ≤ fs.length + 3 * used
  small : ∀ u ∈ flats fs, u.s.size ≤ 3
theorem GrownL.nil (deep : Nat) : GrownL [] deep 0 [] := ⟨by simp, rfl, by simp, by simp [flats], by simp [flats]⟩
theorem flats_snoc (fs : List Fm) (f : Fm) : flats (fs ++ [f]) = flats fs ++ f.flat := by simp [flats]
theorem GrownL.snoc {tys : List Int} {deep used u2 : Nat} {fs : List Fm} {t : Int} {f : Fm} (h : GrownL tys deep used fs) (k : Grown t deep u2 f) : GrownL (tys ++ [t]) deep (used + u2) (fs ++ [f]) := by
  refine ⟨fun g hg => ?_, by rw [List.map_append, h.ty]; simp [k.ty], fun g hg => ?_, ?_, fun u hu => ?_⟩
  · rcases List.mem_append.1 hg with hg | hg
    · exact h.wf g hg
    · rw [List.mem_singleton.1 hg]; exact k.wf
  · rcases List.mem_append.1 hg with hg | hg
    · exact h.depth g hg
    · rw [List.mem_singleton.1 hg]; exact k.depth
  · rw [flats_snoc, List.length_append, List.length_append]
    have := h.len
    have := k.len
    simp only [List.length_singleton]
    omega
  · rw [flats_snoc] at hu
    rcases List.mem_append.1 hu with hu | hu
    · exact h.small u hu
    · exact k.small u hu
theorem Grown.leaf (t x0 x1 : Int) (deep used : Nat) (ht : t = 1 ∨ t = 2 ∨ t = 3) (hd : 1 ≤ deep) : Grown t deep used (.lf (leafTm t x0 x1)) := by
  obtain ⟨h1, h2, h3, h4⟩ := leafTm_formed t x0 x1 ht
  exact ⟨⟨h1, h2⟩, h3, hd, by simp [Fm.flat], fun u hu => by rw [List.mem_singleton.1 hu]; exact h4⟩
theorem mk0_small (kd : Int) : (mk0 kd).s.size ≤ 3 := Nat.zero_le _
theorem grown_un {kd ta t : Int} (hk : formed (mk0 kd) = true ∧ operandsOf kd = 1) (ht : typedOf (mk0 kd) [ta] = t) (h0 : ta ≠ 0) {deep used : Nat} {fs : List Fm} (h : GrownL [ta] deep used fs) :
    Grown t (deep + 1) (used + 1) (node kd fs) ∧ (node kd fs).flat = mk0 kd :: flats fs := by
  match fs, h with
  | [a], h =>
    have e := h.ty
    simp only [List.map_cons, List.map_nil, List.cons.injEq, and_true] at e
    have hd := h.depth a (by simp)
    have hw := h.wf a (by simp)
    have hf : flats [a] = a.flat := by simp [flats]
    have hl := h.len
    have hs := h.small
    rw [hf] at hl hs ⊢
    refine ⟨⟨⟨hk.1, hk.2, hw⟩, ?_, ?_, ?_, ?_⟩, rfl⟩
    · show (if ty a = 0 then 0 else typedOf (mk0 kd) [ty a]) = t
      rw [e, if_neg h0, ht]
    · show a.depth + 1 ≤ _; omega
    · show (mk0 kd :: a.flat).length ≤ _
      simp only [List.length_cons, List.length_nil] at hl ⊢; omega
    · intro u hu
      rcases List.mem_cons.1 hu with rfl | hu
      · exact mk0_small kd
      · exact hs u hu
  | [], h => have e := h.ty; simp at e
  | _ :: _ :: _, h => have e := h.ty; simp at e
theorem grown_bi {kd ta tb t : Int} (hk : formed (mk0 kd) = true ∧ operandsOf kd = 2) (ht : typedOf (mk0 kd) [ta, tb] = t) (h0 : ta ≠ 0) (h1 : tb ≠ 0) {deep used : Nat} {fs : List Fm} (h : GrownL [ta, tb] deep used fs) :
    Grown t (deep + 1) (used + 1) (node kd fs) ∧ (node kd fs).flat = mk0 kd :: flats fs := by
  match fs, h with
  | [a, b], h =>
    have e := h.ty
    simp only [List.map_cons, List.map_nil, List.cons.injEq, and_true] at e
    have hd := h.depth a (by simp)
    have hw := h.wf a (by simp)
    have hd2 := h.depth b (by simp)
    have hw2 := h.wf b (by simp)
    have hf : flats [a, b] = a.flat ++ b.flat := by simp [flats]
    have hl := h.len
    have hs := h.small
    rw [hf] at hl hs ⊢
    refine ⟨⟨⟨hk.1, hk.2, hw, hw2⟩, ?_, ?_, ?_, ?_⟩, rfl⟩
    · show (if ty a = 0 ∨ ty b = 0 then 0 else typedOf (mk0 kd) [ty a, ty b]) = t
      rw [e.1, e.2, if_neg (by simp [h0, h1]), ht]
    · show max a.depth b.depth + 1 ≤ _; omega
    · show (mk0 kd :: (a.flat ++ b.flat)).length ≤ _
      simp only [List.length_cons, List.length_nil] at hl ⊢; omega
    · intro u hu
      rcases List.mem_cons.1 hu with rfl | hu
      · exact mk0_small kd
      · exact hs u hu
  | [], h => have e := h.ty; simp at e
  | [_], h => have e := h.ty; simp at e
  | _ :: _ :: _ :: _, h => have e := h.ty; simp at e
theorem grown_tr {kd ta tb tc t : Int} (hk : formed (mk0 kd) = true ∧ operandsOf kd = 3) (ht : typedOf (mk0 kd) [ta, tb, tc] = t) (h0 : ta ≠ 0) (h1 : tb ≠ 0) (h2 : tc ≠ 0) {deep used : Nat} {fs : List Fm} (h : GrownL [ta, tb, tc] deep used fs) :
    Grown t (deep + 1) (used + 1) (node kd fs) ∧ (node kd fs).flat = mk0 kd :: flats fs := by
  match fs, h with
  | [a, b, c], h =>
    have e := h.ty
    simp only [List.map_cons, List.map_nil, List.cons.injEq, and_true] at e
    have hd := h.depth a (by simp)
    have hw := h.wf a (by simp)
    have hd2 := h.depth b (by simp)
    have hw2 := h.wf b (by simp)
    have hd3 := h.depth c (by simp)
    have hw3 := h.wf c (by simp)
    have hf : flats [a, b, c] = a.flat ++ (b.flat ++ c.flat) := by simp [flats]
    have hl := h.len
    have hs := h.small
    rw [hf] at hl hs ⊢
    refine ⟨⟨⟨hk.1, hk.2, hw, hw2, hw3⟩, ?_, ?_, ?_, ?_⟩, rfl⟩
    · show (if ty a = 0 ∨ ty b = 0 ∨ ty c = 0 then 0 else typedOf (mk0 kd) [ty a, ty b, ty c]) = t
      rw [e.1, e.2.1, e.2.2, if_neg (by simp [h0, h1, h2]), ht]
    · show max a.depth (max b.depth c.depth) + 1 ≤ _; omega
    · show (mk0 kd :: (a.flat ++ (b.flat ++ c.flat))).length ≤ _
      simp only [List.length_cons, List.length_nil] at hl ⊢; omega
    · intro u hu
      rcases List.mem_cons.1 hu with rfl | hu
      · exact mk0_small kd
      · exact hs u hu
  | [], h => have e := h.ty; simp at e
  | [_], h => have e := h.ty; simp at e
  | [_, _], h => have e := h.ty; simp at e
  | _ :: _ :: _ :: _ :: _, h => have e := h.ty; simp at e
theorem grown_node (t k : Int) (ht : t = 1 ∨ t = 2 ∨ t = 3) (hk : 0 ≤ k ∧ k < 9) {deep used : Nat} {fs : List Fm} (h : GrownL (types9 t k) deep used fs) :
    Grown t (deep + 1) (used + 1) (node (kind9 t k) fs) ∧ (node (kind9 t k) fs).flat = mk0 (kind9 t k) :: flats fs := by
  have hk' : k = 0 ∨ k = 1 ∨ k = 2 ∨ k = 3 ∨ k = 4 ∨ k = 5 ∨ k = 6 ∨ k = 7 ∨ k = 8 := by omega
  rcases ht with rfl | rfl | rfl <;> rcases hk' with rfl | rfl | rfl | rfl | rfl | rfl | rfl | rfl | rfl
  all_goals first
    | exact grown_un ⟨by decide +kernel, by decide⟩ (by decide +kernel) (by decide) h
    | exact grown_bi ⟨by decide +kernel, by decide⟩ (by decide +kernel) (by decide) (by decide) h
    | exact grown_tr ⟨by decide +kernel, by decide⟩ (by decide +kernel) (by decide) (by decide) (by decide) h
theorem types9_range (t k : Int) (ht : t = 1 ∨ t = 2 ∨ t = 3) : ∀ x ∈ types9 t k, x = 1 ∨ x = 2 ∨ x = 3 := by
  unfold types9
  rcases ht with rfl | rfl | rfl <;> (repeat' split) <;> simp
theorem types9_len (t k : Int) : (types9 t k).length ≤ 3 := by
  unfold types9
  (repeat' split) <;> simp
end Pl
end Go.Proofs.YtchoelgkcnnnkaaGreatDoor
