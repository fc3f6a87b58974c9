/- PLAIN LAWS: a formula put in the place of a name: its shape, type, names and value. -/
import Derived.Test.YtchoelgkcnnnkaaGreatDoorTypP
set_option linter.all false
namespace Go.Proofs.YtchoelgkcnnnkaaGreatDoor
open Go.RowKit
namespace Pl
/-- Is a term this name? -/
def isN (N : ByteArray) (u : Tm) : Bool := decide (u.k = 4) && decide (u.n = 0) && decide (u.s = N)
theorem isN_iff {N : ByteArray} {u : Tm} : isN N u = true ↔ u = ⟨4, 0, N⟩ := by
  unfold isN
  constructor
  · intro h
    simp at h
    exact Tm.ext' h.1.1 h.1.2 h.2
  · rintro rfl; simp
def subL (N : ByteArray) (g : Fm) (ts : List Tm) : List Tm := ts.flatMap fun u => if isN N u = true then g.flat else [u]
def subF (N : ByteArray) (g : Fm) : Fm → Fm
  | .lf t => if isN N t = true then g else .lf t
  | .un t a => .un t (subF N g a)
  | .bi t a b => .bi t (subF N g a) (subF N g b)
  | .tr t a b c => .tr t (subF N g a) (subF N g b) (subF N g c)
theorem not_isN {N : ByteArray} {u : Tm} (h : operandsOf u.k ≠ 0) : ¬ isN N u = true := by
  rw [isN_iff]
  rintro rfl
  exact h rfl
theorem subL_append (N : ByteArray) (g : Fm) (a b : List Tm) : subL N g (a ++ b) = subL N g a ++ subL N g b := by simp [subL]
theorem subL_cons (N : ByteArray) (g : Fm) (u : Tm) (r : List Tm) : subL N g (u :: r) = (if isN N u = true then g.flat else [u]) ++ subL N g r := by simp [subL]
theorem sub_flat (N : ByteArray) (g : Fm) : ∀ f : Fm, Shape f → (subF N g f).flat = subL N g f.flat
  | .lf t, h => by
    rw [subF, Fm.flat, subL_cons]
    by_cases e : isN N t = true
    · rw [if_pos e, if_pos e]; simp [subL]
    · rw [if_neg e, if_neg e]; simp [subL, Fm.flat]
  | .un t a, h => by
    have e := not_isN (N := N) (u := t) (by rw [h.1]; decide)
    rw [Fm.flat, subL_cons, if_neg e, ← sub_flat N g a h.2]; rfl
  | .bi t a b, h => by
    have e := not_isN (N := N) (u := t) (by rw [h.1]; decide)
    rw [Fm.flat, subL_cons, if_neg e, subL_append, ← sub_flat N g a h.2.1, ← sub_flat N g b h.2.2]; rfl
  | .tr t a b c, h => by
    have e := not_isN (N := N) (u := t) (by rw [h.1]; decide)
    rw [Fm.flat, subL_cons, if_neg e, subL_append, subL_append, ← sub_flat N g a h.2.1, ← sub_flat N g b h.2.2.1, ← sub_flat N g c h.2.2.2]; rfl
theorem sub_wf (N : ByteArray) {g : Fm} (hg : g.wf) : ∀ f : Fm, f.wf → (subF N g f).wf
  | .lf t, h => by
    rw [subF]
    by_cases e : isN N t = true
    · rw [if_pos e]; exact hg
    · rw [if_neg e]; exact h
  | .un t a, h => ⟨h.1, h.2.1, sub_wf N hg a h.2.2⟩
  | .bi t a b, h => ⟨h.1, h.2.1, sub_wf N hg a h.2.2.1, sub_wf N hg b h.2.2.2⟩
  | .tr t a b c, h => ⟨h.1, h.2.1, sub_wf N hg a h.2.2.1, sub_wf N hg b h.2.2.2.1, sub_wf N hg c h.2.2.2.2⟩
theorem sub_ty (N : ByteArray) {g : Fm} (hg : ty g = typeOf N.data.toList) : ∀ f : Fm, ty (subF N g f) = ty f
  | .lf t => by
    rw [subF]
    by_cases e : isN N t = true
    · rw [if_pos e]
      rw [isN_iff] at e
      subst e
      rw [hg]; rfl
    · rw [if_neg e]
  | .un t a => by
    have ea := sub_ty N hg a
    show (if ty (subF N g a) = 0 then 0 else typedOf t [ty (subF N g a)]) = (if ty a = 0 then 0 else typedOf t [ty a])
    rw [ea]
  | .bi t a b => by
    have ea := sub_ty N hg a
    have eb := sub_ty N hg b
    show (if ty (subF N g a) = 0 ∨ ty (subF N g b) = 0 then 0 else typedOf t [ty (subF N g a), ty (subF N g b)]) = (if ty a = 0 ∨ ty b = 0 then 0 else typedOf t [ty a, ty b])
    rw [ea, eb]
  | .tr t a b c => by
    have ea := sub_ty N hg a
    have eb := sub_ty N hg b
    have ec := sub_ty N hg c
    show (if ty (subF N g a) = 0 ∨ ty (subF N g b) = 0 ∨ ty (subF N g c) = 0 then 0 else typedOf t [ty (subF N g a), ty (subF N g b), ty (subF N g c)]) = (if ty a = 0 ∨ ty b = 0 ∨ ty c = 0 then 0 else typedOf t [ty a, ty b, ty c])
    rw [ea, eb, ec]
/-- No term is a name. -/
def NoNames (ts : List Tm) : Prop := ∀ t ∈ ts, t.k ≠ 4
theorem noNames_of {ts : List Tm} (h : namesOf ts = []) : NoNames ts := fun t ht h4 => by
  have := namesOf_mem ht h4
  rw [h] at this
  cases this
theorem fold_noNames : ∀ (ts : List Tm) (acc : List ByteArray), NoNames ts → ts.foldl nameStep acc = acc
  | [], acc, _ => rfl
  | u :: r, acc, h => by
    rw [List.foldl_cons]
    have e : nameStep acc u = acc := by unfold nameStep; rw [if_neg (by intro hh; exact h u (by simp) hh.1)]
    rw [e]
    exact fold_noNames r acc fun t ht => h t (by simp [ht])
theorem contains_false {l : List ByteArray} {s : ByteArray} : Lib.containsS l s = false ↔ s ∉ l := by
  constructor
  · intro h hm
    rw [(Lib.containsS_iff l s).2 hm] at h; cases h
  · intro h
    cases e : Lib.containsS l s with
    | false => rfl
    | true => exact absurd ((Lib.containsS_iff l s).1 e) h
def neN (N : ByteArray) (s : ByteArray) : Bool := decide (s ≠ N)
theorem sub_fold (N : ByteArray) {g : Fm} (hg : NoNames g.flat) : ∀ (ts : List Tm) (acc : List ByteArray), (∀ t ∈ ts, formed t = true) → (subL N g ts).foldl nameStep (acc.filter (neN N)) = (ts.foldl nameStep acc).filter (neN N)
  | [], acc, _ => rfl
  | u :: r, acc, hf => by
    have ih := fun a => sub_fold N hg r a fun t ht => hf t (by simp [ht])
    rw [subL_cons, List.foldl_append, List.foldl_cons]
    by_cases e : isN N u = true
    · rw [if_pos e, fold_noNames _ _ hg, ← ih]
      congr 1
      rw [isN_iff] at e
      subst e
      unfold nameStep
      split
      · rw [List.filter_append]
        have : List.filter (neN N) [N] = [] := by simp [neN]
        show List.filter (neN N) acc = List.filter (neN N) acc ++ List.filter (neN N) [N]
        rw [this, List.append_nil]
      · rfl
    · rw [if_neg e, ← ih]
      congr 1
      rw [List.foldl_cons, List.foldl_nil]
      unfold nameStep
      by_cases h4 : u.k = 4
      · have hn : u.s ≠ N := by
          intro hs
          apply e
          rw [isN_iff]
          have hfu := hf u (by simp)
          unfold formed at hfu
          rw [if_neg (by omega), if_neg (by omega), if_neg (by omega), if_pos h4] at hfu
          simp at hfu
          exact Tm.ext' h4 hfu.1 hs
        have hiff : Lib.containsS (acc.filter (neN N)) u.s = Lib.containsS acc u.s := by
          rw [Bool.eq_iff_iff, Lib.containsS_iff, Lib.containsS_iff, List.mem_filter]
          exact ⟨fun h => h.1, fun h => ⟨h, by simp [neN, hn]⟩⟩
        rw [hiff]
        by_cases hc : Lib.containsS acc u.s = false
        · rw [if_pos ⟨h4, hc⟩, if_pos ⟨h4, hc⟩, List.filter_append]
          congr 1
          simp [neN, hn]
        · rw [if_neg (by intro hh; exact hc hh.2), if_neg (by intro hh; exact hc hh.2)]
      · rw [if_neg (by intro hh; exact h4 hh.1), if_neg (by intro hh; exact h4 hh.1)]
/-- The names of the whole are those of the formula, but for the one that is gone. -/
theorem sub_names {N : ByteArray} {g f : Fm} {r : List ByteArray} (hg : NoNames g.flat) (hw : f.wf) (hn : namesOf f.flat = N :: r) : namesOf (subF N g f).flat = r := by
  have h := sub_fold N hg f.flat [] (wf_formed f hw)
  rw [sub_flat N g f (wf_shape f hw)]
  unfold namesOf at hn ⊢
  rw [hn] at h
  have hnd := namesOf_nodup f.flat
  unfold namesOf at hnd
  rw [hn, List.nodup_cons] at hnd
  have h2 : List.filter (neN N) (N :: r) = r := by
    rw [List.filter_cons]
    have : neN N N = false := by simp [neN]
    rw [this]
    simp only [Bool.false_eq_true, if_false]
    rw [List.filter_eq_self]
    intro s hs
    simp only [neN, decide_eq_true_eq]
    rintro rfl
    exact hnd.1 hs
  rw [h2] at h
  exact h
theorem val_env {e e' : ByteArray → Tm} : ∀ f : Fm, (∀ t ∈ f.flat, t.k = 4 → e t.s = e' t.s) → val e f = val e' f
  | .lf t, h => by
    rw [val, val]
    by_cases h4 : t.k = 4
    · rw [if_pos h4, if_pos h4, h t (by simp [Fm.flat]) h4]
    · rw [if_neg h4, if_neg h4]
  | .un t a, h => by rw [val, val, val_env a fun u hu => h u (by simp [Fm.flat, hu])]
  | .bi t a b, h => by rw [val, val, val_env a fun u hu => h u (by simp [Fm.flat, hu]), val_env b fun u hu => h u (by simp [Fm.flat, hu])]
  | .tr t a b c, h => by rw [val, val, val_env a fun u hu => h u (by simp [Fm.flat, hu]), val_env b fun u hu => h u (by simp [Fm.flat, hu]), val_env c fun u hu => h u (by simp [Fm.flat, hu])]
theorem sub_val {N : ByteArray} {g : Fm} {v : Tm} {e e' : ByteArray → Tm} (hv : val e' g = some v) (hN : e N = v) : ∀ f : Fm, f.wf → (∀ t ∈ f.flat, t.k = 4 → t.s ≠ N → e t.s = e' t.s) → val e' (subF N g f) = val e f
  | .lf t, hw, h => by
    rw [subF]
    by_cases q : isN N t = true
    · rw [if_pos q, hv]
      rw [isN_iff] at q
      subst q
      rw [val, if_pos rfl, hN]
    · rw [if_neg q, val, val]
      by_cases h4 : t.k = 4
      · rw [if_pos h4, if_pos h4, h t (by simp [Fm.flat]) h4]
        intro hs
        apply q
        rw [isN_iff]
        have hfu := hw.1
        unfold formed at hfu
        rw [if_neg (by omega), if_neg (by omega), if_neg (by omega), if_pos h4] at hfu
        simp at hfu
        exact Tm.ext' h4 hfu.1 hs
      · rw [if_neg h4, if_neg h4]
  | .un t a, hw, h => by rw [subF, val, val, sub_val hv hN a hw.2.2 fun u hu => h u (by simp [Fm.flat, hu])]
  | .bi t a b, hw, h => by rw [subF, val, val, sub_val hv hN a hw.2.2.1 fun u hu => h u (by simp [Fm.flat, hu]), sub_val hv hN b hw.2.2.2 fun u hu => h u (by simp [Fm.flat, hu])]
  | .tr t a b c, hw, h => by rw [subF, val, val, sub_val hv hN a hw.2.2.1 fun u hu => h u (by simp [Fm.flat, hu]), sub_val hv hN b hw.2.2.2.1 fun u hu => h u (by simp [Fm.flat, hu]), sub_val hv hN c hw.2.2.2.2 fun u hu => h u (by simp [Fm.flat, hu])]
/-- FormulaPut without its program. -/
theorem put_law {N : ByteArray} {g f : Fm} {r : List ByteArray} {v : Tm} {vs : List Tm} (hg : NoNames g.flat) (hw : f.wf) (hn : namesOf f.flat = N :: r) (hv : val (envOf [] []) g = some v) :
    val (envOf r vs) (subF N g f) = val (envOf (N :: r) (v :: vs)) f := by
  refine sub_val (v := v) (e := envOf (N :: r) (v :: vs)) ?_ (by simp [envOf]) f hw fun t ht h4 hs => ?_
  · rw [← hv]
    exact val_env g fun u hu h4 => absurd h4 (hg u hu)
  · show (if N = t.s then v else envOf r vs t.s) = envOf r vs t.s
    rw [if_neg (fun e => hs e.symm)]
end Pl
end Go.Proofs.YtchoelgkcnnnkaaGreatDoor
