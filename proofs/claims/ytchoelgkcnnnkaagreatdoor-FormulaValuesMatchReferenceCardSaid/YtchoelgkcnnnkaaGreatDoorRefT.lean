/- WALKS of the reference: the type of a term whose operands have types. · PLAIN LAWS: types read from the end, with a pile: which terms are wrong. · WALKS of the reference: Type. · PLAIN LAWS of the reference's Type, from the end of a formula's terms. · WALK of the reference: Type (function 18). -/
import Derived.Test.YtchoelgkcnnnkaaGreatDoorRefE
import Derived.BigQuiet
import Derived.Deep.QuietTactic
import Derived.Test.YtchoelgkcnnnkaaGreatDoorPutP
set_option linter.all false
namespace Go.Proofs.YtchoelgkcnnnkaaGreatDoor
open Go.RowKit
theorem when_is (b : Bool) (t : Int) (w : World) : Calls Tryz.prog 74 #[.bool b, .int .i64 t] w fun e w' => e = .returned (.int .i64 (if b then t else 0)) ∧ w' = w :=
  (when_any b t w).mono fun e w' ⟨h1, h2⟩ => ⟨h1, h2.symm⟩
def TypedR (k : Int) (xs : List Int) : Prop :=
  ∀ (n : Int) (s : ByteArray) (b c : Nat) (w : World), xs.length ≤ c → (∀ j x, xs[j]? = some x → w.cell? ⟨b, j, none⟩ = some (.int .i64 x)) → b < w.heap.size →
    Calls Tryz.prog 52 #[.agg #[.int .i64 k, .int .i64 n, .string s], .slice (some ⟨b, 0, none⟩) xs.length c] w fun e w' => e = .returned (.int .i64 (Pl.opTy k xs)) ∧ Below w.heap.size w w'
set_option maxRecDepth 100000 in
set_option maxHeartbeats 4000000 in
theorem typedR_un (k x : Int) (hk : k = 5 ∨ k = 6 ∨ k = 7) (hx : x = 1 ∨ x = 2 ∨ x = 3) : TypedR k [x] := by
  intro n s b c w hc hcl hb
  have c0 := hcl 0 x rfl
  have hc1 : 1 ≤ c := hc
  have c0' : (w.alloc (.cells #[.int .i64 k, .int .i64 n, .string s] 24)).cell? ⟨b, 0, none⟩ = some (.int .i64 x) := ((below1 w _).cell (p := ⟨b, 0, none⟩) hb).trans c0
  obtain ⟨r, hr⟩ : ∃ r, r = Pl.opTy k [x] := ⟨_, rfl⟩
  rw [← hr]
  have HR := Lib.hid hr
  clear hcl c0 hr
  simp only [List.length_cons, List.length_nil]
  rcases hk with rfl | rfl | rfl <;> rcases hx with rfl | rfl | rfl
  all_goals
    go_enter Tryz.func52, Tryz.ntmps52
    go_wp2_with fail
    refine (when_is _ _ _).mono ?_
    rintro e w' ⟨rfl, rfl⟩
    go_wp2_with fail
    go_ret
    exact ⟨by rw [HR.out]; rfl, below1 w _⟩
theorem below_q {w : World} {o : Obj} (n : Nat) : Below w.heap.size w ((w.alloc o).drewN n) := below_drewN' (below1 w o) n
set_option maxRecDepth 100000 in
set_option maxHeartbeats 8000000 in
theorem typedR_bi (k x y : Int) (hk : k = 8 ∨ k = 9 ∨ k = 10 ∨ k = 11 ∨ k = 12 ∨ k = 13 ∨ k = 14 ∨ k = 15 ∨ k = 16) (hx : x = 1 ∨ x = 2 ∨ x = 3) (hy : y = 1 ∨ y = 2 ∨ y = 3) : TypedR k [x, y] := by
  intro n s b c w hc hcl hb
  have c0 := hcl 0 x rfl
  have c1 := hcl 1 y rfl
  have hc1 : 2 ≤ c := hc
  have c0' : (w.alloc (.cells #[.int .i64 k, .int .i64 n, .string s] 24)).cell? ⟨b, 0, none⟩ = some (.int .i64 x) := ((below1 w _).cell (p := ⟨b, 0, none⟩) hb).trans c0
  have c1' : (w.alloc (.cells #[.int .i64 k, .int .i64 n, .string s] 24)).cell? ⟨b, 1, none⟩ = some (.int .i64 y) := ((below1 w _).cell (p := ⟨b, 1, none⟩) hb).trans c1
  obtain ⟨r, hr⟩ : ∃ r, r = Pl.opTy k [x, y] := ⟨_, rfl⟩
  rw [← hr]
  have HR := Lib.hid hr
  clear hcl c0 c1 hr
  simp only [List.length_cons, List.length_nil]
  rcases hk with rfl | rfl | rfl | rfl | rfl | rfl | rfl | rfl | rfl <;> rcases hx with rfl | rfl | rfl <;> rcases hy with rfl | rfl | rfl
  all_goals
    go_enter Tryz.func52, Tryz.ntmps52
    go_wp2_with fail
    first
      | (refine (when_is _ _ _).mono ?_
         rintro e w' ⟨rfl, rfl⟩
         go_wp2_with fail
         go_ret
         exact ⟨by rw [HR.out]; rfl, below1 w _⟩)
      | (go_quiet ((go_at_call 74; exact Calls.quiet_of_same (when_is _ _ _)))
         go_wp2_with fail
         go_ret
         exact ⟨by rw [HR.out]; rfl, below_q _⟩)
set_option maxRecDepth 100000 in
set_option maxHeartbeats 8000000 in
theorem typedR_tr (x y z : Int) (hx : x = 1 ∨ x = 2 ∨ x = 3) (hy : y = 1 ∨ y = 2 ∨ y = 3) (hz : z = 1 ∨ z = 2 ∨ z = 3) : TypedR 17 [x, y, z] := by
  intro n s b c w hc hcl hb
  have c0 := hcl 0 x rfl
  have c1 := hcl 1 y rfl
  have c2 := hcl 2 z rfl
  have hc1 : 3 ≤ c := hc
  have c0' : (w.alloc (.cells #[.int .i64 17, .int .i64 n, .string s] 24)).cell? ⟨b, 0, none⟩ = some (.int .i64 x) := ((below1 w _).cell (p := ⟨b, 0, none⟩) hb).trans c0
  have c1' : (w.alloc (.cells #[.int .i64 17, .int .i64 n, .string s] 24)).cell? ⟨b, 1, none⟩ = some (.int .i64 y) := ((below1 w _).cell (p := ⟨b, 1, none⟩) hb).trans c1
  have c2' : (w.alloc (.cells #[.int .i64 17, .int .i64 n, .string s] 24)).cell? ⟨b, 2, none⟩ = some (.int .i64 z) := ((below1 w _).cell (p := ⟨b, 2, none⟩) hb).trans c2
  obtain ⟨r, hr⟩ : ∃ r, r = Pl.opTy 17 [x, y, z] := ⟨_, rfl⟩
  rw [← hr]
  have HR := Lib.hid hr
  clear hcl c0 c1 c2 hr
  simp only [List.length_cons, List.length_nil]
  rcases hx with rfl | rfl | rfl <;> rcases hy with rfl | rfl | rfl <;> rcases hz with rfl | rfl | rfl
  all_goals
    go_enter Tryz.func52, Tryz.ntmps52
    go_wp2_with fail
    go_quiet ((go_at_call 74; exact Calls.quiet_of_same (when_is _ _ _)))
    go_wp2_with fail
    go_ret
    exact ⟨by rw [HR.out]; rfl, below_q _⟩
end Go.Proofs.YtchoelgkcnnnkaaGreatDoor
set_option linter.all false
namespace Go.Proofs.YtchoelgkcnnnkaaGreatDoor
open Go.RowKit
namespace Pl
/-- The last wrong place in formulas that are written one after the other. -/
def wrongs : List Fm → Int → Int → Int
  | [], _, w => w
  | f :: r, i, w => wrongs r (i + f.flat.length) (wrongAt f i w)
/-- All operands have types, and the formula has none. -/
def okTy (fs : List Fm) : Bool := fs.all fun f => decide (ty f ≠ 0)
def badAt (f : Fm) : Bool := okTy (kids f) && decide (ty f = 0) && !(kids f).isEmpty
theorem wrongs_append : ∀ (a b : List Fm) (i w : Int), wrongs (a ++ b) i w = wrongs b (i + (flats a).length) (wrongs a i w)
  | [], b, i, w => by simp [wrongs, flats]
  | f :: r, b, i, w => by
    have ih := wrongs_append r b (i + f.flat.length) (wrongAt f i w)
    rw [List.cons_append, wrongs, ih]
    show _ = wrongs b (i + (flats (f :: r)).length) (wrongs r (i + f.flat.length) (wrongAt f i w))
    congr 1
    simp [flats]
    omega
/-- A formula's wrong places, by its operands. -/
theorem wrong_kids (f : Fm) (i w : Int) : wrongAt f i w = if badAt f = true then max (wrongs (kids f) (i + 1) w) i else wrongs (kids f) (i + 1) w := by
  cases f with
  | lf t =>
    have h : badAt (.lf t) = false := by simp [badAt, kids]
    rw [h]; rfl
  | un t a =>
    have e : (ty a ≠ 0 ∧ typedOf t [ty a] = 0) ↔ badAt (.un t a) = true := by
      have h1 : badAt (.un t a) = (([a].all fun f => decide (ty f ≠ 0)) && decide ((if ty a = 0 then 0 else typedOf t [ty a]) = 0) && true) := rfl
      rw [h1]
      by_cases h : ty a = 0 <;> simp [h]
    show (if ty a ≠ 0 ∧ typedOf t [ty a] = 0 then max (wrongAt a (i + 1) w) i else wrongAt a (i + 1) w) = _
    by_cases h : ty a ≠ 0 ∧ typedOf t [ty a] = 0
    · rw [if_pos h, if_pos (e.1 h)]; rfl
    · rw [if_neg h, if_neg (fun h' => h (e.2 h'))]; rfl
  | bi t a b =>
    have e : ((ty a ≠ 0 ∧ ty b ≠ 0) ∧ typedOf t [ty a, ty b] = 0) ↔ badAt (.bi t a b) = true := by
      have h1 : badAt (.bi t a b) = (([a, b].all fun f => decide (ty f ≠ 0)) && decide ((if ty a = 0 ∨ ty b = 0 then 0 else typedOf t [ty a, ty b]) = 0) && true) := rfl
      rw [h1]
      by_cases h : ty a = 0 <;> by_cases h2 : ty b = 0 <;> simp [h, h2]
    show (if (ty a ≠ 0 ∧ ty b ≠ 0) ∧ typedOf t [ty a, ty b] = 0 then max (wrongAt b (i + 1 + a.flat.length) (wrongAt a (i + 1) w)) i else wrongAt b (i + 1 + a.flat.length) (wrongAt a (i + 1) w)) = _
    by_cases h : (ty a ≠ 0 ∧ ty b ≠ 0) ∧ typedOf t [ty a, ty b] = 0
    · rw [if_pos h, if_pos (e.1 h)]; rfl
    · rw [if_neg h, if_neg (fun h' => h (e.2 h'))]; rfl
  | tr t a b c =>
    have e : ((ty a ≠ 0 ∧ ty b ≠ 0 ∧ ty c ≠ 0) ∧ typedOf t [ty a, ty b, ty c] = 0) ↔ badAt (.tr t a b c) = true := by
      have h1 : badAt (.tr t a b c) = (([a, b, c].all fun f => decide (ty f ≠ 0)) && decide ((if ty a = 0 ∨ ty b = 0 ∨ ty c = 0 then 0 else typedOf t [ty a, ty b, ty c]) = 0) && true) := rfl
      rw [h1]
      by_cases h : ty a = 0 <;> by_cases h2 : ty b = 0 <;> by_cases h3 : ty c = 0 <;> simp [h, h2, h3]
    show (if (ty a ≠ 0 ∧ ty b ≠ 0 ∧ ty c ≠ 0) ∧ typedOf t [ty a, ty b, ty c] = 0 then max (wrongAt c (i + 1 + a.flat.length + b.flat.length) (wrongAt b (i + 1 + a.flat.length) (wrongAt a (i + 1) w))) i else wrongAt c (i + 1 + a.flat.length + b.flat.length) (wrongAt b (i + 1 + a.flat.length) (wrongAt a (i + 1) w))) = _
    by_cases h : (ty a ≠ 0 ∧ ty b ≠ 0 ∧ ty c ≠ 0) ∧ typedOf t [ty a, ty b, ty c] = 0
    · rw [if_pos h, if_pos (e.1 h)]; rfl
    · rw [if_neg h, if_neg (fun h' => h (e.2 h'))]; rfl
def MaxAt (f : Fm) : Prop := ∀ i w : Int, -1 ≤ w → 0 ≤ i → wrongAt f i w = max w (wrongAt f i (-1)) ∧ (wrongAt f i (-1) = -1 ∨ i ≤ wrongAt f i (-1))
theorem wrongs_of : ∀ (fs : List Fm), (∀ f ∈ fs, MaxAt f) → ∀ (i w : Int), -1 ≤ w → 0 ≤ i → wrongs fs i w = max w (wrongs fs i (-1)) ∧ (wrongs fs i (-1) = -1 ∨ i ≤ wrongs fs i (-1))
  | [], _, i, w, hw, hi => by
    show w = max w (-1) ∧ ((-1 : Int) = -1 ∨ i ≤ -1)
    omega
  | f :: r, P, i, w, hw, hi => by
    have p := P f (by simp) i w hw hi
    have ih1 := wrongs_of r (fun g hg => P g (by simp [hg])) (i + f.flat.length) (wrongAt f i w) (by omega) (by omega)
    have ih2 := wrongs_of r (fun g hg => P g (by simp [hg])) (i + f.flat.length) (wrongAt f i (-1)) (by omega) (by omega)
    show wrongs r (i + f.flat.length) (wrongAt f i w) = max w (wrongs r (i + f.flat.length) (wrongAt f i (-1))) ∧ (wrongs r (i + f.flat.length) (wrongAt f i (-1)) = -1 ∨ i ≤ wrongs r (i + f.flat.length) (wrongAt f i (-1)))
    rw [ih1.1, ih2.1, p.1]
    omega
theorem mem_len {g : Fm} : ∀ {l : List Fm}, g ∈ l → g.flat.length ≤ (flats l).length
  | x :: r, h => by
    have e : flats (x :: r) = x.flat ++ flats r := by simp [flats]
    rw [e, List.length_append]
    rcases List.mem_cons.1 h with rfl | h
    · omega
    · have := mem_len h; omega
theorem kid_less {f g : Fm} (h : g ∈ kids f) : g.flat.length < f.flat.length := by
  rw [flat_kids f, List.length_cons]
  have := mem_len h
  omega
theorem maxAt_all : ∀ (n : Nat) (f : Fm), f.flat.length ≤ n → MaxAt f
  | 0, f, h => by have := Fm.flat_pos f; omega
  | n + 1, f, h => by
    intro i w hw hi
    have k1 := wrongs_of (kids f) (fun g hg => maxAt_all n g (by have := kid_less hg; omega)) (i + 1) w hw (by omega)
    rw [wrong_kids f i w, wrong_kids f i (-1), k1.1]
    split <;> omega
theorem wrongAt_max (f : Fm) : MaxAt f := maxAt_all _ f (Nat.le_refl _)
theorem wrongs_max (fs : List Fm) (i w : Int) (hw : -1 ≤ w) (hi : 0 ≤ i) : wrongs fs i w = max w (wrongs fs i (-1)) ∧ (wrongs fs i (-1) = -1 ∨ i ≤ wrongs fs i (-1)) := wrongs_of fs (fun f _ => wrongAt_max f) i w hw hi
/-- One term more, read from the end. -/
theorem wrongs_step (f : Fm) (r : List Fm) (i : Int) (hi : 0 ≤ i) :
    wrongs (f :: r) i (-1) = if (badAt f && decide (wrongs (kids f ++ r) (i + 1) (-1) < 0)) = true then i else wrongs (kids f ++ r) (i + 1) (-1) := by
  have h0 := wrongAt_max f i (-1) (by omega) hi
  have h1 := wrongs_max r (i + f.flat.length) (wrongAt f i (-1)) (by omega) (by omega)
  have h2 := wrongs_max (kids f) (i + 1) (-1) (by omega) (by omega)
  have h3 := wrongs_max r (i + f.flat.length) (wrongs (kids f) (i + 1) (-1)) (by omega) (by omega)
  have hfl : f.flat.length = (flats (kids f)).length + 1 := by rw [flat_kids f]; rfl
  have e : i + 1 + ((flats (kids f)).length : Int) = i + f.flat.length := by rw [hfl]; omega
  have hr := (wrongs_max r (i + f.flat.length) (-1) (by omega) (by omega)).2
  rw [wrongs_append, e]
  show wrongs r (i + f.flat.length) (wrongAt f i (-1)) = _
  rw [h1.1, h3.1, wrong_kids f i (-1)]
  cases hb : badAt f with
  | true =>
    simp only [Bool.true_and, decide_eq_true_eq, if_true]
    split <;> omega
  | false =>
    simp
theorem flats_inj : ∀ (a b : List Fm), (∀ f ∈ a, f.wf) → (∀ f ∈ b, f.wf) → flats a = flats b → a = b
  | [], [], _, _, _ => rfl
  | [], g :: r, _, _, h => by
    have e : flats (g :: r) = g.flat ++ flats r := by simp [flats]
    rw [e] at h
    have h1 := congrArg List.length h
    have h2 := Fm.flat_pos g
    have h0 : (flats ([] : List Fm)).length = 0 := rfl
    rw [List.length_append, h0] at h1
    omega
  | f :: r, [], _, _, h => by
    have e : flats (f :: r) = f.flat ++ flats r := by simp [flats]
    rw [e] at h
    have h1 := congrArg List.length h
    have h2 := Fm.flat_pos f
    have h0 : (flats ([] : List Fm)).length = 0 := rfl
    rw [List.length_append, h0] at h1
    omega
  | f :: r, g :: q, ha, hb, h => by
    have h' : f.flat ++ flats r = g.flat ++ flats q := by simpa [flats] using h
    obtain ⟨rfl, h2⟩ := flat_inj f g _ _ (wf_shape f (ha f (by simp))) (wf_shape g (hb g (by simp))) h'
    rw [flats_inj r q (fun x hx => ha x (by simp [hx])) (fun x hx => hb x (by simp [hx])) h2]
/-- What is left of a formula from a place on is formulas, one after the other. -/
theorem suffix_flats {f : Fm} (hw : f.wf) (i : Nat) (hi : i ≤ f.flat.length) : ∃ fs : List Fm, (∀ g ∈ fs, g.wf) ∧ flats fs = f.flat.drop i := by
  have hp : pile f.flat = some [f.depth] := by
    have := pile_flat f [] [] hw rfl
    rwa [List.append_nil] at this
  cases h : pile (f.flat.drop i) with
  | none =>
    have := pile_none_append (f.flat.take i) (f.flat.drop i) h
    rw [List.take_append_drop, hp] at this
    cases this
  | some p =>
    obtain ⟨fs, h1, _, h3⟩ := pile_some _ _ h
    exact ⟨fs, h1, h3.symm⟩
/-- One term more: a formula, and what its operands leave. -/
theorem suffix_step {fs : List Fm} {f : Fm} {t : Tm} {i : Nat} (hw : f.wf) (ht : f.flat[i]? = some t) (hfs : ∀ g ∈ fs, g.wf) (he : flats fs = f.flat.drop (i + 1)) :
    ∃ (g : Fm) (r : List Fm), g.wf ∧ g.hd = t ∧ fs = kids g ++ r ∧ (∀ x ∈ r, x.wf) ∧ flats (g :: r) = f.flat.drop i := by
  have hi := (List.getElem?_eq_some_iff.1 ht).1
  obtain ⟨gs, h1, h2⟩ := suffix_flats hw i (by omega)
  have hd : f.flat.drop i = t :: f.flat.drop (i + 1) := by
    rw [List.drop_eq_getElem_cons hi]
    congr 1
    rw [List.getElem?_eq_getElem hi] at ht
    exact Option.some.inj ht
  match gs, h1, h2 with
  | [], _, h2 => rw [hd] at h2; simp [flats] at h2
  | g :: r, h1, h2 =>
    have e : flats (g :: r) = g.hd :: flats (kids g ++ r) := by
      have := flat_kids g
      simp only [flats, List.flatMap_cons, List.flatMap_append] at this ⊢
      rw [this]; simp
    have h3 := h2
    rw [hd, e] at h3
    simp only [List.cons.injEq] at h3
    refine ⟨g, r, h1 g (by simp), h3.1, ?_, fun x hx => h1 x (by simp [hx]), h2⟩
    refine flats_inj fs _ hfs (fun x hx => ?_) (by rw [he, ← h3.2])
    rcases List.mem_append.1 hx with hx | hx
    · exact (kids_wf (h1 g (by simp)) x hx).1
    · exact h1 x (by simp [hx])
end Pl
end Go.Proofs.YtchoelgkcnnnkaaGreatDoor
set_option linter.all false
namespace Go.Proofs.YtchoelgkcnnnkaaGreatDoor
open Go.RowKit
set_option maxRecDepth 100000 in
set_option maxHeartbeats 2000000 in
theorem typedR_leaf (t : Tm) (a : Option Addr) (c : Nat) (w : World) (hf : Pl.formed t = true) (h0 : Pl.operandsOf t.k = 0) (hs : t.s.size ≤ 9223372036854775807) :
    Calls Tryz.prog 52 #[t.agg, .slice a 0 c] w fun e w' => e = .returned (.int .i64 (Pl.typedOf t [])) ∧ Below w.heap.size w w' := by
  have hk := Pl.kinds4 h0
  obtain ⟨k, n, s⟩ := t
  unfold Tm.agg
  dsimp only at *
  obtain ⟨r, hr⟩ : ∃ r, r = Pl.typedOf ⟨k, n, s⟩ [] := ⟨_, rfl⟩
  rw [← hr]
  have HR := Lib.hid hr
  clear hf h0 hr
  rcases hk with rfl | rfl | rfl | rfl
  · go_enter Tryz.func52, Tryz.ntmps52
    go_wp2_with fail
    go_ret
    exact ⟨by rw [HR.out]; rfl, below1 w _⟩
  · go_enter Tryz.func52, Tryz.ntmps52
    go_wp2_with fail
    go_ret
    exact ⟨by rw [HR.out]; rfl, below1 w _⟩
  · go_enter Tryz.func52, Tryz.ntmps52
    go_wp2_with fail
    go_ret
    exact ⟨by rw [HR.out]; rfl, below1 w _⟩
  · go_enter Tryz.func52, Tryz.ntmps52
    go_wp2_with fail
    refine (typeOfR_any s _ hs).mono ?_
    rintro e w' ⟨rfl, rfl⟩
    go_wp2_with fail
    go_ret
    exact ⟨by rw [HR.out]; rfl, below1 w _⟩
/-- The type of a term whose operands have types. -/
theorem typedR_any (t : Tm) (v : Value) (xs : List Int) (w : World) (h : IntsIn w v xs) (hf : Pl.formed t = true) (ho : Pl.operandsOf t.k = (xs.length : Int)) (hx : ∀ x ∈ xs, x = 1 ∨ x = 2 ∨ x = 3) (hs : t.s.size ≤ 9223372036854775807) :
    Calls Tryz.prog 52 #[t.agg, v] w fun e w' => e = .returned (.int .i64 (Pl.typedOf t xs)) ∧ Below w.heap.size w w' := by
  obtain ⟨a, c, rfl, hc, hr⟩ := h
  match xs, ho, hx, hc, hr with
  | [], ho, _, _, _ => exact typedR_leaf t a c w hf (by simpa using ho) hs
  | [x], ho, hx, hc, hr =>
    have hk := Pl.kinds1 (k := t.k) (by simpa using ho)
    obtain ⟨b, rfl, hb, hcl⟩ := hr (by simp)
    rw [Pl.typed_op t _ (by omega)]
    exact typedR_un t.k x hk (hx x (by simp)) t.n t.s b c w hc hcl hb
  | [x, y], ho, hx, hc, hr =>
    have hk := Pl.kinds2 (k := t.k) (by simpa using ho)
    obtain ⟨b, rfl, hb, hcl⟩ := hr (by simp)
    rw [Pl.typed_op t _ (by omega)]
    exact typedR_bi t.k x y hk (hx x (by simp)) (hx y (by simp)) t.n t.s b c w hc hcl hb
  | [x, y, z], ho, hx, hc, hr =>
    have hk := Pl.kinds3 (k := t.k) (by simpa using ho)
    obtain ⟨b, rfl, hb, hcl⟩ := hr (by simp)
    rw [Pl.typed_op t _ (by omega)]
    have := typedR_tr x y z (hx x (by simp)) (hx y (by simp)) (hx z (by simp)) t.n t.s b c w hc hcl hb
    unfold Tm.agg
    rw [hk]
    exact this
  | x :: y :: z :: u :: r, ho, _, _, _ =>
    have := Pl.operandsOf_range t.k
    simp at ho
    omega
end Go.Proofs.YtchoelgkcnnnkaaGreatDoor
set_option linter.all false
namespace Go.Proofs.YtchoelgkcnnnkaaGreatDoor
open Go.RowKit
namespace Pl
/-- The type of a formula, by those of its operands. -/
theorem ty_kids {f : Fm} (h : okTy (kids f) = true) : ty f = typedOf f.hd ((kids f).map ty) := by
  cases f with
  | lf t => rfl
  | un t a =>
    have h' : ty a ≠ 0 := by simpa [okTy, kids] using h
    show (if ty a = 0 then 0 else typedOf t [ty a]) = _
    rw [if_neg h']; rfl
  | bi t a b =>
    have h' : ty a ≠ 0 ∧ ty b ≠ 0 := by simpa [okTy, kids] using h
    show (if ty a = 0 ∨ ty b = 0 then 0 else typedOf t [ty a, ty b]) = _
    rw [if_neg (by simp [h'.1, h'.2])]; rfl
  | tr t a b c =>
    have h' : ty a ≠ 0 ∧ ty b ≠ 0 ∧ ty c ≠ 0 := by simpa [okTy, kids] using h
    show (if ty a = 0 ∨ ty b = 0 ∨ ty c = 0 then 0 else typedOf t [ty a, ty b, ty c]) = _
    rw [if_neg (by simp [h'.1, h'.2.1, h'.2.2])]; rfl
theorem ty_none {f : Fm} (h : okTy (kids f) = false) : ty f = 0 := by
  cases f with
  | lf t => simp [okTy, kids] at h
  | un t a =>
    have h' : ty a = 0 := by simpa [okTy, kids] using h
    show (if ty a = 0 then 0 else typedOf t [ty a]) = 0
    rw [if_pos h']
  | bi t a b =>
    have h' : ty a = 0 ∨ ty b = 0 := by
      by_cases h1 : ty a = 0
      · exact .inl h1
      · right; simpa [okTy, kids, h1] using h
    show (if ty a = 0 ∨ ty b = 0 then 0 else typedOf t [ty a, ty b]) = 0
    rw [if_pos h']
  | tr t a b c =>
    have h' : ty a = 0 ∨ ty b = 0 ∨ ty c = 0 := by
      by_cases h1 : ty a = 0
      · exact .inl h1
      · by_cases h2 : ty b = 0
        · exact .inr (.inl h2)
        · right; right; simpa [okTy, kids, h1, h2] using h
    show (if ty a = 0 ∨ ty b = 0 ∨ ty c = 0 then 0 else typedOf t [ty a, ty b, ty c]) = 0
    rw [if_pos h']
theorem bad_iff {f : Fm} (hw : f.wf) : badAt f = (okTy (kids f) && decide (ty f = 0)) := by
  cases f with
  | lf t =>
    have h : ty (.lf t) ≠ 0 := by
      show typedOf t [] ≠ 0
      unfold typedOf
      rcases kinds4 hw.2 with e | e | e | e
      · rw [if_pos (.inl e)]; omega
      · rw [if_pos (.inr (.inl e))]; omega
      · rw [if_pos (.inr (.inr e))]; omega
      · rw [if_neg (by omega), if_pos e]
        have hf := hw.1
        unfold formed at hf
        rw [if_neg (by omega), if_neg (by omega), if_neg (by omega), if_pos e] at hf
        simp at hf
        omega
    simp [badAt, okTy, kids, h]
  | un t a => simp [badAt, kids]
  | bi t a b => simp [badAt, kids]
  | tr t a b c => simp [badAt, kids]
theorem okTy_snoc (l : List Fm) (x : Fm) : okTy (l ++ [x]) = (okTy l && decide (0 < ty x)) := by
  have := ty_range x
  unfold okTy
  rw [List.all_append]
  congr 1
  simp only [List.all_cons, List.all_nil, Bool.and_true]
  rw [Bool.eq_iff_iff]
  simp
  omega
end Pl
end Go.Proofs.YtchoelgkcnnnkaaGreatDoor
set_option linter.all false
namespace Go.Proofs.YtchoelgkcnnnkaaGreatDoor
open Go.RowKit
namespace Pl
theorem flats_long : ∀ fs : List Fm, fs.length ≤ (flats fs).length
  | [] => Nat.le_refl _
  | f :: r => by
    have h := flats_long r
    have h2 := Fm.flat_pos f
    show r.length + 1 ≤ (f.flat ++ flats r).length
    rw [List.length_append]
    omega
theorem pile_at {fs ks r : List Fm} (h : fs = ks ++ r) {j : Nat} {x : Fm} (hj : ks[j]? = some x) : (fs.map ty).reverse[ks.length + r.length - 1 - j]? = some (ty x) := by
  have hlt := (List.getElem?_eq_some_iff.1 hj).1
  subst h
  rw [List.getElem?_reverse (by simp; omega)]
  rw [show (List.map ty (ks ++ r)).length - 1 - (ks.length + r.length - 1 - j) = j by simp; omega]
  rw [List.map_append, List.getElem?_append_left (by simpa using hlt), List.getElem?_map, hj]
  rfl
theorem formed_hd' {f : Fm} (h : f.wf) : formed f.hd = true := by
  cases f <;> exact h.1
theorem okTy_mem {l : List Fm} (h : okTy l = true) : ∀ x ∈ l.map ty, x = 1 ∨ x = 2 ∨ x = 3 := by
  intro x hx
  obtain ⟨y, hy, rfl⟩ := List.mem_map.1 hx
  have h1 := List.all_eq_true.1 h y hy
  have h2 := ty_range y
  simp at h1
  omega
end Pl
/-- What is left of a pile when its end is cut away. -/
theorem pile_rest {w : World} {B N m cp : Nat} {ap : Option Addr} {fs ks r : List Fm} (h : OwnInts w B (.slice ap (m + N) cp) (fs.map Pl.ty).reverse) (hf : fs = ks ++ r) (hm : m = ks.length) (hN : N = r.length) :
    w.ownsRow B 3 1 (.slice ap N cp) N ((r.map Pl.ty).reverse.map (Value.int .i64)) := by
  have hl : ((fs.map Pl.ty).reverse).length = N + m := by subst hf hm hN; simp [Nat.add_comm]
  unfold OwnInts at h
  rw [hl] at h
  rcases owns_shape1 h with ⟨h1, h2⟩ | ⟨g, cap, h1, _⟩
  · obtain rfl : N = 0 := by omega
    obtain rfl : r = [] := List.length_eq_zero_iff.1 hN.symm
    injection h1 with e1 e2 e3
    subst e1 e3
    exact World.ownsRow_nil _ _ _ _
  · injection h1 with e1 e2 e3
    subst e1 e3
    have e : (fs.map Pl.ty).reverse.map (Value.int .i64) = (r.map Pl.ty).reverse.map (Value.int .i64) ++ (ks.map Pl.ty).reverse.map (Value.int .i64) := by
      subst hf; simp
    rw [e, Nat.add_comm m N] at h
    have hx : N = ((r.map Pl.ty).reverse.map (Value.int .i64)).length := by simp [hN]
    generalize hX : (r.map Pl.ty).reverse.map (Value.int .i64) = X at *
    subst hx
    exact owns_prefix h
structure TyAt (B : Nat) (wr : World) (s6 : Value) (f : Fm) (p : Nat) (fs : List Fm) : Prop where
  own : OwnInts wr B s6 (fs.map Pl.ty).reverse
  wf : ∀ g ∈ fs, g.wf
  flat : Pl.flats fs = f.flat.drop p
def TyRel (B : Nat) (wr : World) (s5 s6 : Value) (f : Fm) (p : Nat) : Prop := ∃ fs, TyAt B wr s6 f p fs ∧ s5 = .int .i64 (Pl.wrongs fs p (-1))
set_option maxRecDepth 100000 in
set_option maxHeartbeats 8000000 in
theorem typeR_ok (f : Fm) (d off c : Nat) (w : World) (hc : f.flat.length ≤ c) (hrow : RowIn w d off f.flat) (hwf : f.wf) (hl : f.flat.length ≤ 60) (hd : f.depth ≤ 12) :
    Calls Tryz.prog 18 #[.slice (some ⟨d, off, none⟩) f.flat.length c] w fun e w' => e = .returned (.tuple #[.int .i64 (Pl.ty f), .int .i64 (Pl.wrongAt f 0 (-1)), .int .i64 0]) ∧ Below w.heap.size w w' := by
  have hd0 := hrow.lt (Fm.flat_ne f)
  have hfp := Fm.flat_pos f
  have HR := Lib.hid hrow
  have HW := Lib.hid hwf
  have HV : Hid (true = Pl.validB f.flat) := Lib.hid (Pl.valid_of hwf hd hl).symm
  have hT : Hid (TermsIn w (.slice (some ⟨d, off, none⟩) f.flat.length c) f.flat) := Lib.hid ⟨_, _, rfl, hc, by rintro p ⟨⟩; rfl, fun _ => ⟨_, _, rfl, hrow⟩⟩
  obtain ⟨i0, hi0, hz0, hz1, hz2⟩ := info_parts info3
  obtain ⟨L, hL⟩ : ∃ L, L = f.flat.length := ⟨_, rfl⟩
  rw [← hL] at hc hl hfp ⊢
  have HL := Lib.hid hL
  rw [← hL] at hT
  obtain ⟨TF, hTF⟩ : ∃ TF, TF = Pl.ty f := ⟨_, rfl⟩
  obtain ⟨WA, hWA⟩ : ∃ WA, WA = Pl.wrongAt f 0 (-1) := ⟨_, rfl⟩
  rw [← hTF, ← hWA]
  have HTF := Lib.hid hTF
  have HWA := Lib.hid hWA
  clear hrow hwf hL hTF hWA
  go_enter Tryz.func18, Tryz.ntmps18
  go_wp2_with fail
  refine (validR_any _ f.flat true _ hT.out (by have := HL.out; omega) HV).mono ?_
  rintro e w1 ⟨rfl, hb⟩
  have HB := Lib.hid hb
  have HR1 := Lib.hid (HR.out.below hb hd0)
  have hd1 : d < w1.heap.size := Nat.lt_of_lt_of_le hd0 hb.size
  clear hb hT
  go_wp2_with fail
  go_loopw [5, 6, 7] (fun s5 s6 s7 wr => ∃ p : Nat, p ≤ L ∧ s7 = .int .i64 ((p : Int) - 1) ∧ TyRel w1.heap.size wr s5 s6 f p ∧ Below w1.heap.size w1 wr) (fun _ _ s7 _ => (intOf s7 + 1).toNat)
  case atStart => exact ⟨L, Nat.le_refl _, rfl, ⟨[], ⟨World.ownsRow_nil _ _ _ _, by simp, by rw [HL.out, List.drop_length]; rfl⟩, rfl⟩, Below.refl _ _⟩
  case round =>
    obtain ⟨p, hp, rfl, ⟨fs, hta, rfl⟩, hbr⟩ := hrel
    have HTA := Lib.hid hta
    have HBR := Lib.hid hbr
    have hsz := hbr.size
    obtain ⟨wr0, hwr0⟩ : ∃ wr0, wr0 = Pl.wrongs fs p (-1) := ⟨_, rfl⟩
    have hwb := (Pl.wrongs_max fs p (-1) (by omega) (by omega)).2
    rw [← hwr0] at hwb ⊢
    have HW0 := Lib.hid hwr0
    clear hta hbr hwr0
    by_cases hp0 : p = 0
    · subst hp0
      obtain rfl : fs = [f] := Pl.flats_inj fs [f] HTA.out.wf (by intro g hg; rw [List.mem_singleton.1 hg]; exact HW.out) (by rw [HTA.out.flat]; simp [Pl.flats])
      have hwa : wr0 = WA := HW0.out.trans HWA.out.symm
      have hnn : 0 ≤ wr0 → TF = 0 := by
        intro hge
        rw [HTF.out]
        by_cases e : Pl.ty f = 0
        · exact e
        · have := Pl.wrongAt_none f 0 (-1) e
          rw [← HWA.out, ← hwa] at this
          omega
      subst hwa
      have HNN := Lib.hid hnn
      clear hnn
      rcases owns_shape1 HTA.out.own with ⟨_, h0⟩ | ⟨gp, cap, rfl, hpn, hpc, _, hpg, hcl⟩
      · simp at h0
      · have c0 := hcl 0 (.int .i64 (Pl.ty f)) (by simp)
        rw [← HTF.out] at c0
        clear hcl
        simp only [List.map_cons, List.map_nil, List.reverse_cons, List.reverse_nil, List.nil_append, List.length_cons, List.length_nil] at *
        have hz : (((0 : Nat) : Int) - 1) = -1 := by decide
        rw [hz]
        by_cases hneg : wr0 < 0
        · obtain rfl : wr0 = -1 := by omega
          go_wp2_with fail
          go_ret3
          exact ⟨rfl, HB.out.trans (HBR.out.mono HB.out.size)⟩
        · have hge : 0 ≤ wr0 := by omega
          obtain rfl : TF = 0 := HNN.out hge
          go_wp2_with fail
          go_ret3
          exact ⟨rfl, HB.out.trans (HBR.out.mono HB.out.size)⟩
    · obtain ⟨i, rfl⟩ : ∃ i, p = i + 1 := ⟨p - 1, by omega⟩
      obtain ⟨t, ht⟩ : ∃ t, f.flat[i]? = some t := ⟨f.flat[i]'(by have := HL.out; omega), by simp⟩
      obtain ⟨g, r, hgw, hgt, hfs, hrw, hgf⟩ := Pl.suffix_step HW.out ht HTA.out.wf HTA.out.flat
      obtain ⟨q0, q1, q2, q3⟩ := (HR1.out.below HBR.out hd1) i t ht
      have hcast : (((i + 1 : Nat) : Int) - 1) = (i : Int) := by omega
      rw [hcast]
      have hkl := Pl.kids_len hgw
      rw [hgt] at hkl
      obtain ⟨m, hm⟩ : ∃ m, m = (Pl.kids g).length := ⟨_, rfl⟩
      rw [← hm] at hkl
      have HKL := Lib.hid hkl
      have hm3 : m ≤ 3 := by have := Pl.operandsOf_range t.k; omega
      clear hkl hcast
      go_wp2_with fail
      refine (operandsR_any t.k wr).mono ?_
      rintro e w2 ⟨rfl, rfl⟩
      rw [← HKL.out]
      have hfl := Pl.flats_long fs
      rw [HTA.out.flat, List.length_drop, ← HL.out] at hfl
      obtain ⟨N, hN⟩ : ∃ N, N = r.length := ⟨_, rfl⟩
      have hfn : fs.length = m + N := by rw [hfs, List.length_append, ← hm, ← hN]
      have hn60 : m + N ≤ 60 := by omega
      obtain ⟨ap, cp, hs6, hcp, hpc⟩ := HTA.out.own.ints
      have hxl : ((fs.map Pl.ty).reverse).length = m + N := by simp [hfn]
      rw [hxl] at hs6 hcp
      subst hs6
      have HPC := Lib.hid hpc
      have HM := Lib.hid hm
      have HN := Lib.hid hN
      have HFS := Lib.hid hfs
      have HGF := Lib.hid hgf
      have HGW := Lib.hid hgw
      have HRW := Lib.hid hrw
      have HGT := Lib.hid hgt
      clear hpc hm hN hfs hgf hgw hrw hgt hxl hfl hfn
      go_wp2_with fail
      rename World => W
      go_loopw [9, 10, 11] (fun s9 s10 s11 wi => ∃ j : Nat, j ≤ m ∧ s11 = .int .i64 j ∧ s10 = .bool (Pl.okTy ((Pl.kids g).take j)) ∧ OwnInts wi W.heap.size s9 (((Pl.kids g).take j).map Pl.ty) ∧ Below W.heap.size W wi) (fun _ _ s11 _ => m - (intOf s11).toNat)
      case atStart => exact ⟨0, Nat.zero_le _, rfl, rfl, World.ownsRow_nil _ _ _ _, Below.refl _ _⟩
      case round =>
        obtain ⟨j, hj, rfl, rfl, hown, hbi⟩ := hrel
        have hszi := hbi.size
        by_cases hlt : j < m
        · obtain ⟨x, hx⟩ : ∃ x, (Pl.kids g)[j]? = some x := ⟨(Pl.kids g)[j]'(by have := HM.out; omega), by simp⟩
          have hne : (fs.map Pl.ty).reverse ≠ [] := by
            intro e
            have h1 := congrArg List.length e
            have h2 := congrArg List.length HFS.out
            rw [List.length_append, ← HM.out] at h2
            simp at h1
            subst h1
            simp at h2
            omega
          obtain ⟨gp, rfl, hgp, hcl⟩ := HPC.out hne
          have c0 := hcl _ _ (Pl.pile_at HFS.out hx)
          rw [← HM.out, ← HN.out] at c0
          have c1 := (hbi.cell (p := ⟨gp, m + N - 1 - j, none⟩) hgp).trans c0
          obtain ⟨T, hT⟩ : ∃ T, T = Pl.ty x := ⟨_, rfl⟩
          rw [← hT] at c1
          have HSN : Hid ((Pl.kids g).take (j + 1) = (Pl.kids g).take j ++ [x]) := Lib.hid (by rw [List.take_succ, hx]; rfl)
          have htk : ((Pl.kids g).take j).length = j := by rw [List.length_take, ← HM.out]; omega
          obtain ⟨K, hK⟩ : ∃ K, K = (Pl.kids g).take j := ⟨_, rfl⟩
          rw [← hK] at hown htk HSN ⊢
          obtain ⟨b, hb⟩ : ∃ b, b = Pl.okTy K := ⟨_, rfl⟩
          rw [← hb]
          have HB0 := Lib.hid hb
          have HT := Lib.hid hT
          have HOW := Lib.hid hown
          have HBI := Lib.hid hbi
          have htr := Pl.ty_range x
          rw [← hT] at htr
          clear hb hT hown hbi hcl c0 hx hK hne
          go_wp2_with (at_builtin; go_loud (refine wpList_append_own _ rfl _ _ 46 rfl W.heap.size 3 i0 (.int .i64 0) 1 8 Tryz.underlying46 hi0 hz0 hz1 hz2 rfl (by decide) _ _ _ rfl (World.ownsRow.alloc HOW.out _) ⟨wr.heap.size, 0, none⟩ 1 1 [.int .i64 T] rfl rfl ?c1 ?c2 ?c3 ?c4 ?c5 ?_))
          case c1 =>
            intro j u hj
            match j, hj with
            | 0, hj => simp at hj; subst hj; simp [Addr.add]
          case c2 => intro u hu; simp at hu; subst hu; rfl
          case c3 => unfold maxLen; simp only [List.length_map]; omega
          case c4 => simp only [List.length_map]; omega
          case c5 => simp; omega
          intro v' w3 hown' hgrow _
          have hown2 : OwnInts w3 W.heap.size v' (K.map Pl.ty ++ [T]) := by
            unfold OwnInts
            simpa [htk] using hown'
          have HOW2 := Lib.hid hown2
          have HB3 : Hid (Below W.heap.size W w3) := Lib.hid ((HBI.out.alloc hszi _).grown hgrow (by simp; omega) (fun k hk => (World.ownsRow.lt HOW.out k hk).1))
          have hln : (K.map Pl.ty ++ [T]).length = j + 1 := by simp [htk]
          obtain ⟨ap, c2, hv2, hc2, hc3⟩ := hown2.ints
          rw [hln] at hc2 hv2
          subst hv2
          obtain ⟨g2, rfl, hg2, hcl2⟩ := hc3 (by simp)
          have cj := hcl2 j T (by rw [List.getElem?_append_right (by rw [List.length_map]; omega), List.length_map, htk, Nat.sub_self]; rfl)
          clear hown' hgrow hc3 hcl2 hown2 hln
          cases b
          · go_wp2_with fail
            go_roundw
            case rel => exact ⟨j + 1, by omega, by go_num, by rw [HSN.out, Pl.okTy_snoc, ← HB0.out]; rfl, by rw [HSN.out, List.map_append, List.map_cons, List.map_nil, ← HT.out]; exact HOW2.out, HB3.out⟩
            case measure => simp [intOf]; omega
          · go_wp2_with fail
            go_roundw
            case rel => exact ⟨j + 1, by omega, by go_num, by rw [HSN.out, Pl.okTy_snoc, ← HB0.out, ← HT.out]; rfl, by rw [HSN.out, List.map_append, List.map_cons, List.map_nil, ← HT.out]; exact HOW2.out, HB3.out⟩
            case measure => simp [intOf]; omega
        · obtain rfl : j = m := by omega
          have htk : (Pl.kids g).take j = Pl.kids g := by rw [HM.out, List.take_length]
          rw [htk] at hown ⊢
          have HOW := Lib.hid hown
          have HBI := Lib.hid hbi
          have HBN := Lib.hid (HBR.out.trans (hbi.mono HBR.out.size))
          have hdW : d < W.heap.size := Nat.lt_of_lt_of_le hd1 hsz
          obtain ⟨u0, u1, u2, u3⟩ := ((HR1.out.below HBR.out hd1).below hbi hdW) i t ht
          have HOP : Hid (wr.ownsRow w1.heap.size 3 1 (.slice ap (j + N - j) cp) N ((r.map Pl.ty).reverse.map (Value.int .i64))) := Lib.hid (by rw [Nat.add_sub_cancel_left]; exact pile_rest (ownsRow_below HTA.out.own hbi) HFS.out HM.out HN.out)
          have HWF : Hid (∀ x ∈ g :: r, x.wf) := Lib.hid (by intro x hx; rcases List.mem_cons.1 hx with rfl | hx; exact HGW.out; exact HRW.out x hx)
          obtain ⟨TG, hTG⟩ : ∃ TG, TG = Pl.ty g := ⟨_, rfl⟩
          have HTG := Lib.hid hTG
          have HBD := Lib.hid (Pl.bad_iff HGW.out)
          have HWS : Hid (Pl.wrongs (g :: r) i (-1) = if (Pl.okTy (Pl.kids g) && decide (TG = 0) && decide (wr0 < 0)) = true then (i : Int) else wr0) := Lib.hid (by
            have h1 := Pl.wrongs_step g r i (by omega)
            have h2 := HW0.out
            rw [HFS.out] at h2
            rw [h1, HBD.out, ← hTG, show ((i : Int) + 1) = ((i + 1 : Nat) : Int) from by omega, ← h2])
          have HFIN : Hid (∀ (v : Value) (w3 : World), w3.ownsRow w1.heap.size 3 1 v (N + 1) ((r.map Pl.ty).reverse.map (Value.int .i64) ++ [.int .i64 TG]) → OwnInts w3 w1.heap.size v ((g :: r).map Pl.ty).reverse) := Lib.hid (by
            intro v w3 h
            unfold OwnInts
            have e : ((g :: r).map Pl.ty).reverse.length = N + 1 := by simp [HN.out]
            rw [e, List.map_cons, List.reverse_cons, List.map_append, List.map_cons, List.map_nil, ← hTG]
            exact h)
          obtain ⟨b, hb⟩ : ∃ b, b = Pl.okTy (Pl.kids g) := ⟨_, rfl⟩
          rw [← hb] at HWS ⊢
          have HB0 := Lib.hid hb
          have hs9 := HOW.out.ints
          have HS9 := Lib.hid hs9
          clear hs9 hown hbi htk hlt hj hb hTG
          cases b
          · have HT0 : TG = 0 := HTG.out.trans (Pl.ty_none HB0.out.symm)
            subst HT0
            go_wp2_with (at_builtin; go_loud (refine wpList_append_own _ rfl _ _ 46 rfl w1.heap.size 3 i0 (.int .i64 0) 1 8 Tryz.underlying46 hi0 hz0 hz1 hz2 rfl (by decide) _ _ _ rfl (World.ownsRow.alloc HOP.out _) ⟨wr.heap.size, 0, none⟩ 1 1 [.int .i64 0] rfl rfl ?b1 ?b2 ?b3 ?b4 ?b5 ?_))
            case b2 => first | rfl | (intro u hu; simp at hu; subst hu; rfl)
            case b3 => unfold maxLen; omega
            case b4 => omega
            case b5 => first | omega | (simp; omega)
            intro v' w3 hown' hgrow _
            have hlt3 : ∀ (k : Nat), (Value.slice ap N cp).ownBlock = some k → w1.heap.size ≤ k := fun k hk => (World.ownsRow.lt HOP.out k (by rw [Nat.add_sub_cancel_left]; exact hk)).1
            have HOW3 := Lib.hid hown'
            have HB3 : Hid (Below w1.heap.size w1 w3) := Lib.hid ((HBN.out.alloc HBN.out.size _).grown hgrow (by simp; have := HBN.out.size; omega) hlt3)
            clear hown' hgrow hlt3
            go_wp2_with fail
            go_roundw
            case rel => exact ⟨i, by omega, by go_num, ⟨g :: r, ⟨HFIN.out _ _ (by simpa using HOW3.out), HWF.out, HGF.out⟩, by rw [HWS.out]; simp⟩, HB3.out⟩
            case measure => simp [intOf] <;> omega
          · have HTO : Hid (TG = Pl.typedOf t ((Pl.kids g).map Pl.ty)) := Lib.hid (by rw [HTG.out, Pl.ty_kids HB0.out.symm, HGT.out])
            have h52 := typedR_any t _ _ wr HS9.out (by rw [← HGT.out]; exact Pl.formed_hd' HGW.out) (by rw [← HKL.out, HM.out, List.length_map]) (Pl.okTy_mem HB0.out.symm) (by omega)
            rw [← HTO.out] at h52
            unfold Tm.agg at h52
            go_wp2_with fail
            refine h52.mono ?_
            rintro e w4 ⟨rfl, hb4⟩
            have HOP2 : Hid (w4.ownsRow w1.heap.size 3 1 (.slice ap N cp) N ((r.map Pl.ty).reverse.map (Value.int .i64))) := Lib.hid (by have h := ownsRow_below HOP.out hb4; rw [Nat.add_sub_cancel_left] at h; exact h)
            have HBN2 := Lib.hid (HBN.out.trans (hb4.mono HBN.out.size))
            have hs4 := HBN2.out.size
            clear hb4 h52
            by_cases hT0 : TG = 0
            · subst hT0
              by_cases hneg : wr0 < 0
              · obtain rfl : wr0 = -1 := by omega
                go_wp2_with (at_builtin; go_loud (refine wpList_append_own _ rfl _ _ 46 rfl w1.heap.size 3 i0 (.int .i64 0) 1 8 Tryz.underlying46 hi0 hz0 hz1 hz2 rfl (by decide) _ _ _ rfl (World.ownsRow.alloc HOP2.out _) ⟨w4.heap.size, 0, none⟩ 1 1 [.int .i64 0] rfl rfl ?d1 ?d2 ?d3 ?d4 ?d5 ?_))
                case d1 =>
                  intro j u hj
                  match j, hj with
                  | 0, hj => simp at hj; subst hj; simp [Addr.add]
                case d2 => first | rfl | (intro u hu; simp at hu; subst hu; rfl)
                case d3 => unfold maxLen; omega
                case d4 => omega
                case d5 => first | omega | (simp; omega)
                intro v' w3 hown' hgrow _
                have hlt3 : ∀ (k : Nat), (Value.slice ap N cp).ownBlock = some k → w1.heap.size ≤ k := fun k hk => (World.ownsRow.lt HOP2.out k hk).1
                have HOW3 := Lib.hid hown'
                have HB3 : Hid (Below w1.heap.size w1 w3) := Lib.hid ((HBN2.out.alloc HBN2.out.size _).grown hgrow (by simp; have := HBN2.out.size; omega) hlt3)
                clear hown' hgrow hlt3
                go_wp2_with fail
                go_roundw
                case rel => exact ⟨i, by omega, by go_num, ⟨g :: r, ⟨HFIN.out _ _ (by simpa using HOW3.out), HWF.out, HGF.out⟩, by rw [HWS.out]; simp⟩, HB3.out⟩
                case measure => simp [intOf] <;> omega
              · have hneg' : ¬ wr0 < 0 := hneg
                go_wp2_with (at_builtin; go_loud (refine wpList_append_own _ rfl _ _ 46 rfl w1.heap.size 3 i0 (.int .i64 0) 1 8 Tryz.underlying46 hi0 hz0 hz1 hz2 rfl (by decide) _ _ _ rfl (World.ownsRow.alloc HOP2.out _) ⟨w4.heap.size, 0, none⟩ 1 1 [.int .i64 0] rfl rfl ?e1 ?e2 ?e3 ?e4 ?e5 ?_))
                case e1 =>
                  intro j u hj
                  match j, hj with
                  | 0, hj => simp at hj; subst hj; simp [Addr.add]
                case e2 => first | rfl | (intro u hu; simp at hu; subst hu; rfl)
                case e3 => unfold maxLen; omega
                case e4 => omega
                case e5 => first | omega | (simp; omega)
                intro v' w3 hown' hgrow _
                have hlt3 : ∀ (k : Nat), (Value.slice ap N cp).ownBlock = some k → w1.heap.size ≤ k := fun k hk => (World.ownsRow.lt HOP2.out k hk).1
                have HOW3 := Lib.hid hown'
                have HB3 : Hid (Below w1.heap.size w1 w3) := Lib.hid ((HBN2.out.alloc HBN2.out.size _).grown hgrow (by simp; have := HBN2.out.size; omega) hlt3)
                clear hown' hgrow hlt3
                go_wp2_with fail
                go_roundw
                case rel => exact ⟨i, by omega, by go_num, ⟨g :: r, ⟨HFIN.out _ _ (by simpa using HOW3.out), HWF.out, HGF.out⟩, by rw [HWS.out]; simp; intro h9; omega⟩, HB3.out⟩
                case measure => simp [intOf] <;> omega
            · have hTd : decide (TG = 0) = false := by simpa using hT0
              go_wp2_with (at_builtin; go_loud (refine wpList_append_own _ rfl _ _ 46 rfl w1.heap.size 3 i0 (.int .i64 0) 1 8 Tryz.underlying46 hi0 hz0 hz1 hz2 rfl (by decide) _ _ _ rfl (World.ownsRow.alloc HOP2.out _) ⟨w4.heap.size, 0, none⟩ 1 1 [.int .i64 TG] rfl rfl ?f1 ?f2 ?f3 ?f4 ?f5 ?_))
              case f1 =>
                intro j u hj
                match j, hj with
                | 0, hj => simp at hj; subst hj; simp [Addr.add]
              case f2 => first | rfl | (intro u hu; simp at hu; subst hu; rfl)
              case f3 => unfold maxLen; omega
              case f4 => omega
              case f5 => first | omega | (simp; omega)
              intro v' w3 hown' hgrow _
              have hlt3 : ∀ (k : Nat), (Value.slice ap N cp).ownBlock = some k → w1.heap.size ≤ k := fun k hk => (World.ownsRow.lt HOP2.out k hk).1
              have HOW3 := Lib.hid hown'
              have HB3 : Hid (Below w1.heap.size w1 w3) := Lib.hid ((HBN2.out.alloc HBN2.out.size _).grown hgrow (by simp; have := HBN2.out.size; omega) hlt3)
              clear hown' hgrow hlt3
              go_wp2_with fail
              go_roundw
              case rel => exact ⟨i, by omega, by go_num, ⟨g :: r, ⟨HFIN.out _ _ (by simpa using HOW3.out), HWF.out, HGF.out⟩, by rw [HWS.out, hTd]; simp⟩, HB3.out⟩
              case measure => simp [intOf] <;> omega
set_option maxRecDepth 100000 in
set_option maxHeartbeats 1000000 in
/-- Type of the reference at what is no formula. -/
theorem typeR_bad (v : Value) (ts : List Tm) (w : World) (hT : TermsIn w v ts) (hl : ts.length ≤ 9223372036854775807) (HV : Hid (false = Pl.validB ts)) :
    Calls Tryz.prog 18 #[v] w fun e w' => e = .returned (.tuple #[.int .i64 0, .int .i64 0, .int .i64 150]) ∧ Below w.heap.size w w' := by
  have HT := Lib.hid hT
  obtain ⟨a, c, rfl, _⟩ := hT
  go_enter Tryz.func18, Tryz.ntmps18
  go_wp2_with fail
  refine (validR_any _ ts false _ HT.out hl HV).mono ?_
  rintro e w1 ⟨rfl, hb⟩
  have HB := Lib.hid hb
  clear hb
  go_wp2_with fail
  go_ret3
  exact ⟨rfl, HB.out⟩
end Go.Proofs.YtchoelgkcnnnkaaGreatDoor
