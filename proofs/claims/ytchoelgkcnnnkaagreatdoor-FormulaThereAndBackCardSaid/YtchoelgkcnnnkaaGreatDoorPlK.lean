/- PLAIN LAWS: a text that is read to its end, as a valid formula, is that of the formula; the text of a formula is not empty. -/
import Derived.Test.YtchoelgkcnnnkaaGreatDoorPlJ
namespace Go.Proofs.YtchoelgkcnnnkaaGreatDoor
open Go.RowKit
namespace Pl
/-- Each term has as many operands as its kind says. -/
def Shape : Fm → Prop
  | .lf t => operandsOf t.k = 0
  | .un t a => operandsOf t.k = 1 ∧ Shape a
  | .bi t a b => operandsOf t.k = 2 ∧ Shape a ∧ Shape b
  | .tr t a b c => operandsOf t.k = 3 ∧ Shape a ∧ Shape b ∧ Shape c
theorem wf_shape : ∀ f : Fm, f.wf → Shape f
  | .lf _, h => h.2
  | .un _ a, h => ⟨h.2.1, wf_shape a h.2.2⟩
  | .bi _ a b, h => ⟨h.2.1, wf_shape a h.2.2.1, wf_shape b h.2.2.2⟩
  | .tr _ a b c, h => ⟨h.2.1, wf_shape a h.2.2.1, wf_shape b h.2.2.2.1, wf_shape c h.2.2.2.2⟩
theorem wf_formed : ∀ f : Fm, f.wf → ∀ t ∈ f.flat, formed t = true
  | .lf _, h, t, ht => by simp [Fm.flat] at ht; subst ht; exact h.1
  | .un _ a, h, t, ht => by
    simp [Fm.flat] at ht
    rcases ht with rfl | ht
    · exact h.1
    · exact wf_formed a h.2.2 t ht
  | .bi _ a b, h, t, ht => by
    simp [Fm.flat] at ht
    rcases ht with rfl | ht | ht
    · exact h.1
    · exact wf_formed a h.2.2.1 t ht
    · exact wf_formed b h.2.2.2 t ht
  | .tr _ a b c, h, t, ht => by
    simp [Fm.flat] at ht
    rcases ht with rfl | ht | ht | ht
    · exact h.1
    · exact wf_formed a h.2.2.1 t ht
    · exact wf_formed b h.2.2.2.1 t ht
    · exact wf_formed c h.2.2.2.2 t ht
theorem wf_of : ∀ f : Fm, Shape f → (∀ t ∈ f.flat, formed t = true) → f.wf
  | .lf t, h, k => ⟨k t (by simp [Fm.flat]), h⟩
  | .un t a, h, k => ⟨k t (by simp [Fm.flat]), h.1, wf_of a h.2 fun u hu => k u (by simp [Fm.flat, hu])⟩
  | .bi t a b, h, k => ⟨k t (by simp [Fm.flat]), h.1, wf_of a h.2.1 fun u hu => k u (by simp [Fm.flat, hu]), wf_of b h.2.2 fun u hu => k u (by simp [Fm.flat, hu])⟩
  | .tr t a b c, h, k => ⟨k t (by simp [Fm.flat]), h.1, wf_of a h.2.1 fun u hu => k u (by simp [Fm.flat, hu]), wf_of b h.2.2.1 fun u hu => k u (by simp [Fm.flat, hu]), wf_of c h.2.2.2 fun u hu => k u (by simp [Fm.flat, hu])⟩
/-- Two formulas, each followed by something, whose terms are the same, are the same. -/
theorem flat_inj : ∀ (f g : Fm) (r q : List Tm), Shape f → Shape g → f.flat ++ r = g.flat ++ q → f = g ∧ r = q
  | .lf t, g, r, q, hf, hg, h => by
    cases g with
    | lf u => simp only [Fm.flat, List.cons_append, List.nil_append, List.cons.injEq] at h; obtain ⟨rfl, h⟩ := h; exact ⟨rfl, h⟩
    | un u a => simp only [Fm.flat, List.cons_append, List.nil_append, List.cons.injEq] at h; obtain ⟨rfl, _⟩ := h; have := hf.symm.trans hg.1; omega
    | bi u a b => simp only [Fm.flat, List.cons_append, List.nil_append, List.cons.injEq] at h; obtain ⟨rfl, _⟩ := h; have := hf.symm.trans hg.1; omega
    | tr u a b c => simp only [Fm.flat, List.cons_append, List.nil_append, List.cons.injEq] at h; obtain ⟨rfl, _⟩ := h; have := hf.symm.trans hg.1; omega
  | .un t a, g, r, q, hf, hg, h => by
    cases g with
    | lf u => simp only [Fm.flat, List.cons_append, List.nil_append, List.cons.injEq] at h; obtain ⟨rfl, _⟩ := h; have := hf.1.symm.trans hg; omega
    | un u a' =>
      simp only [Fm.flat, List.cons_append, List.cons.injEq] at h
      obtain ⟨rfl, h⟩ := h
      obtain ⟨rfl, h2⟩ := flat_inj a a' r q hf.2 hg.2 h
      exact ⟨rfl, h2⟩
    | bi u a b => simp only [Fm.flat, List.cons_append, List.cons.injEq] at h; obtain ⟨rfl, _⟩ := h; have := hf.1.symm.trans hg.1; omega
    | tr u a b c => simp only [Fm.flat, List.cons_append, List.cons.injEq] at h; obtain ⟨rfl, _⟩ := h; have := hf.1.symm.trans hg.1; omega
  | .bi t a b, g, r, q, hf, hg, h => by
    cases g with
    | lf u => simp only [Fm.flat, List.cons_append, List.nil_append, List.cons.injEq] at h; obtain ⟨rfl, _⟩ := h; have := hf.1.symm.trans hg; omega
    | un u a' => simp only [Fm.flat, List.cons_append, List.cons.injEq] at h; obtain ⟨rfl, _⟩ := h; have := hf.1.symm.trans hg.1; omega
    | bi u a' b' =>
      simp only [Fm.flat, List.cons_append, List.cons.injEq, List.append_assoc] at h
      obtain ⟨rfl, h⟩ := h
      obtain ⟨rfl, h2⟩ := flat_inj a a' _ _ hf.2.1 hg.2.1 h
      obtain ⟨rfl, h3⟩ := flat_inj b b' _ _ hf.2.2 hg.2.2 h2
      exact ⟨rfl, h3⟩
    | tr u a b c => simp only [Fm.flat, List.cons_append, List.cons.injEq] at h; obtain ⟨rfl, _⟩ := h; have := hf.1.symm.trans hg.1; omega
  | .tr t a b c, g, r, q, hf, hg, h => by
    cases g with
    | lf u => simp only [Fm.flat, List.cons_append, List.nil_append, List.cons.injEq] at h; obtain ⟨rfl, _⟩ := h; have := hf.1.symm.trans hg; omega
    | un u a' => simp only [Fm.flat, List.cons_append, List.cons.injEq] at h; obtain ⟨rfl, _⟩ := h; have := hf.1.symm.trans hg.1; omega
    | bi u a' b' => simp only [Fm.flat, List.cons_append, List.cons.injEq] at h; obtain ⟨rfl, _⟩ := h; have := hf.1.symm.trans hg.1; omega
    | tr u a' b' c' =>
      simp only [Fm.flat, List.cons_append, List.cons.injEq, List.append_assoc] at h
      obtain ⟨rfl, h⟩ := h
      obtain ⟨rfl, h2⟩ := flat_inj a a' _ _ hf.2.1 hg.2.1 h
      obtain ⟨rfl, h3⟩ := flat_inj b b' _ _ hf.2.2.1 hg.2.2.1 h2
      obtain ⟨rfl, h4⟩ := flat_inj c c' _ _ hf.2.2.2 hg.2.2.2 h3
      exact ⟨rfl, h4⟩
theorem flat_eq {f g : Fm} (hf : Shape f) (hg : Shape g) (h : f.flat = g.flat) : f = g := (flat_inj f g [] [] hf hg (by simpa using h)).1
theorem kindOf_two (c : UInt8) (h : kindOf c ≠ 0) : operandsOf (kindOf c) = 2 := by
  have key : ∀ n : Fin 256, kindOf (UInt8.ofNat n.val) ≠ 0 → operandsOf (kindOf (UInt8.ofNat n.val)) = 2 := by decide +kernel
  have := key ⟨c.toNat, c.toNat_lt⟩
  simp only [UInt8.ofNat_toNat] at this
  exact this h
/-- What is read has the right shape. -/
theorem itr' {c : Prop} [Decidable c] {a b : Rd} {P : Fm → Nat → Prop} {B : Nat → Prop} (h1 : c → a.sat P B) (h2 : ¬ c → b.sat P B) : (if c then a else b).sat P B := by
  by_cases h : c
  · rw [if_pos h]; exact h1 h
  · rw [if_neg h]; exact h2 h
theorem rd_shape (s : ByteArray) : ∀ (n p : Nat), (rd s n p).sat (fun f _ => Shape f) (fun _ => True)
  | 0, p => trivial
  | n + 1, p => by
    have ih := rd_shape s n
    have un : ∀ k, operandsOf k = 1 → Rd.sat ((rd s n (p + 1)).then fun a q => .ok (.un (mk0 k) a) q) (fun f _ => Shape f) (fun _ => True) := by
      intro k hk
      exact Rd.sat_then (ih (p + 1)) (fun _ _ => trivial) fun a q ha => ⟨hk, ha⟩
    unfold rd
    refine itr' (fun _ => trivial) fun _ => ?_
    refine itr' (fun _ => rfl) fun _ => ?_
    refine itr' (fun _ => sat_word (fun _ => rfl) fun _ _ => trivial) fun _ => ?_
    refine itr' (fun _ => rfl) fun _ => ?_
    refine itr' (fun _ => rfl) fun _ => ?_
    refine itr' (fun _ => sat_word (fun _ => rfl) fun _ _ => trivial) fun _ => ?_
    refine itr' (fun _ => un _ rfl) fun _ => ?_
    refine itr' (fun _ => un _ rfl) fun _ => ?_
    refine itr' (fun _ => un _ rfl) fun _ => ?_
    refine itr' (fun _ => ?_) fun _ => ?_
    · refine Rd.sat_then (ih (p + 1)) (fun _ _ => trivial) fun a q ha => ?_
      refine itr' (fun _ => trivial) fun hk => ?_
      refine Rd.sat_then (ih (q + 1)) (fun _ _ => trivial) fun b q2 hb => ?_
      exact sat_word (fun _ => ⟨kindOf_two _ hk, ha, hb⟩) fun _ _ => trivial
    refine itr' (fun _ => ?_) fun _ => trivial
    refine sat_word (fun _ => ?_) fun _ _ => trivial
    refine Rd.sat_then (ih (p + 2)) (fun _ _ => trivial) fun a q ha => ?_
    refine sat_word (fun _ => ?_) fun _ _ => trivial
    refine Rd.sat_then (ih (q + 1)) (fun _ _ => trivial) fun b q2 hb => ?_
    refine sat_word (fun _ => ?_) fun _ _ => trivial
    refine Rd.sat_then (ih (q2 + 1)) (fun _ _ => trivial) fun c q3 hc => ?_
    exact sat_word (fun _ => ⟨rfl, ha, hb, hc⟩) fun _ _ => trivial
/-- What is read as a valid formula is one. -/
theorem rd_wf {s : ByteArray} {n p q : Nat} {f : Fm} (h : rd s n p = .ok f q) (hv : validB f.flat = true) : f.wf ∧ f.depth ≤ 12 ∧ f.flat.length ≤ 60 := by
  have hs : Shape f := by have := rd_shape s n p; rw [h] at this; exact this
  obtain ⟨hl, g, hg, hd, he⟩ := (validB_iff _).1 hv
  obtain rfl := flat_eq hs (wf_shape g hg) he
  exact ⟨hg, hd, hl⟩
theorem valid_of {f : Fm} (hw : f.wf) (hd : f.depth ≤ 12) (hl : f.flat.length ≤ 60) : validB f.flat = true := (validB_iff _).2 ⟨hl, f, hw, hd, rfl⟩
theorem leafText_ne {t : Tm} (h : formed t = true) (h0 : operandsOf t.k = 0) : leafText t ≠ [] := by
  rcases leaf_cases h h0 with ⟨n, rfl, h1, h2⟩ | rfl | rfl | ⟨s, rfl, _, _⟩ | ⟨s, rfl, h1⟩
  · show Lib.itoa n ≠ []
    rw [itoa_nat n h1]; exact decDigits_ne _
  · decide
  · decide
  · show 39 :: (s.data.toList ++ [39]) ≠ []
    simp
  · show s.data.toList ≠ []
    intro e; rw [e] at h1; exact absurd h1 (by decide)
theorem text_ne : ∀ f : Fm, f.wf → text f ≠ []
  | .lf _, h => leafText_ne h.1 h.2
  | .un _ _, _ => by simp [text]
  | .bi _ _ _, _ => by simp [text]
  | .tr _ _ _ _, _ => by simp [text]
end Pl
end Go.Proofs.YtchoelgkcnnnkaaGreatDoor
