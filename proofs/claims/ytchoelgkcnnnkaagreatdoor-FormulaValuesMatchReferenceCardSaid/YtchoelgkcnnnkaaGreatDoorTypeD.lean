/- WALK: formula.Type's closure. · WALK: formula.Type's closure at terms with operands. -/
import Derived.Test.YtchoelgkcnnnkaaGreatDoorTypeB
import Derived.Laws.EntriesVeiled
import Derived.Lib.BufferOwn
set_option linter.all false
namespace Go.Proofs.YtchoelgkcnnnkaaGreatDoor
open Go.RowKit

namespace Pl
/-- The type of a formula: 0 where none is right. -/
def ty : Fm → Int
  | .lf t => typedOf t []
  | .un t a => if ty a = 0 then 0 else typedOf t [ty a]
  | .bi t a b => if ty a = 0 ∨ ty b = 0 then 0 else typedOf t [ty a, ty b]
  | .tr t a b c => if ty a = 0 ∨ ty b = 0 ∨ ty c = 0 then 0 else typedOf t [ty a, ty b, ty c]
/-- The last place where a formula's types are wrong. -/
def wrongAt : Fm → Int → Int → Int
  | .lf _, _, w => w
  | .un t a, i, w => let w1 := wrongAt a (i + 1) w
    if ty a ≠ 0 ∧ typedOf t [ty a] = 0 then max w1 i else w1
  | .bi t a b, i, w => let w1 := wrongAt b (i + 1 + a.flat.length) (wrongAt a (i + 1) w)
    if (ty a ≠ 0 ∧ ty b ≠ 0) ∧ typedOf t [ty a, ty b] = 0 then max w1 i else w1
  | .tr t a b c, i, w => let w1 := wrongAt c (i + 1 + a.flat.length + b.flat.length) (wrongAt b (i + 1 + a.flat.length) (wrongAt a (i + 1) w))
    if (ty a ≠ 0 ∧ ty b ≠ 0 ∧ ty c ≠ 0) ∧ typedOf t [ty a, ty b, ty c] = 0 then max w1 i else w1
theorem look_range (rs : List (List UInt8 × Int)) (l : List UInt8) (h : ∀ r ∈ rs, 0 ≤ r.2 ∧ r.2 ≤ 3) : 0 ≤ look rs l ∧ look rs l ≤ 3 := by
  induction rs with
  | nil => simp [look]
  | cons r rs ih =>
    unfold look
    split
    · exact h r (by simp)
    · exact ih fun x hx => h x (by simp [hx])
theorem rules_range (k : Int) : ∀ r ∈ rulesOf k, 0 ≤ r.2 ∧ r.2 ≤ 3 := by
  unfold rulesOf; (repeat' split) <;> simp
theorem typedOf_range (t : Tm) (xs : List Int) : 0 ≤ typedOf t xs ∧ typedOf t xs ≤ 3 := by
  unfold typedOf
  split
  · omega
  · split
    · exact typeOf_range _
    · exact look_range _ _ (rules_range _)
theorem ty_range (f : Fm) : 0 ≤ ty f ∧ ty f ≤ 3 := by
  cases f <;> unfold ty
  · exact typedOf_range _ _
  all_goals (split; simp; exact typedOf_range _ _)
theorem wrongAt_range (f : Fm) : ∀ (i w : Int), -1 ≤ w → w ≤ 100 → 0 ≤ i → i + f.flat.length ≤ 100 → -1 ≤ wrongAt f i w ∧ wrongAt f i w ≤ 100 := by
  induction f with
  | lf t => intro i w h1 h2 h3 h4; exact ⟨h1, h2⟩
  | un t a ih =>
    intro i w h1 h2 h3 h4
    simp only [Fm.flat, List.length_cons] at h4
    have := ih (i + 1) w h1 h2 (by omega) (by omega)
    simp only [wrongAt]; split <;> omega
  | bi t a b iha ihb =>
    intro i w h1 h2 h3 h4
    simp only [Fm.flat, List.length_cons, List.length_append] at h4
    have h5 := iha (i + 1) w h1 h2 (by omega) (by omega)
    have := ihb (i + 1 + a.flat.length) _ h5.1 h5.2 (by omega) (by omega)
    simp only [wrongAt]; split <;> omega
  | tr t a b c iha ihb ihc =>
    intro i w h1 h2 h3 h4
    simp only [Fm.flat, List.length_cons, List.length_append] at h4
    have h5 := iha (i + 1) w h1 h2 (by omega) (by omega)
    have h6 := ihb (i + 1 + a.flat.length) _ h5.1 h5.2 (by omega) (by omega)
    have := ihc (i + 1 + a.flat.length + b.flat.length) _ h6.1 h6.2 (by omega) (by omega)
    simp only [wrongAt]; split <;> omega
end Pl

/-- What stands while a formula is typed. -/
structure TS (w : World) (q fb wb d off c : Nat) (ts : List Tm) (x : Int) : Prop where
  hv : w.cell? ⟨q, 0, none⟩ = some (.slice (some ⟨d, off, none⟩) ts.length c)
  cap : ts.length ≤ c
  row : RowIn w d off ts
  dlt : d < w.heap.size
  dw : d ≠ wb
  qw : q ≠ wb
  fw : fb ≠ wb
  hf : w.cell? ⟨fb, 0, none⟩ = some (.func (.func 48) #[] #[.pointer (some ⟨q, 0, none⟩), .pointer (some ⟨fb, 0, none⟩), .pointer (some ⟨wb, 0, none⟩)])
  hw : w.heap[wb]? = some (.cells #[.int .i64 x] 3 (0, 0))
theorem grown_cell {w w' : World} {b : Nat} (h : w.grownBy w' (some b)) {k o : Nat} {v : Value} (hc : w.cell? ⟨k, o, none⟩ = some v) (hk : k ≠ b) : w'.cell? ⟨k, o, none⟩ = some v := by
  have := h.block k (lt_of_cell hc) (by simpa using hk)
  simp only [World.cell?] at hc ⊢
  rw [this]; exact hc
theorem TS.kept {w w' : World} {q fb wb d off c : Nat} {ts : List Tm} {x y : Int} (h : TS w q fb wb d off c ts x) (k : w.grownBy w' (some wb)) (hw : w'.heap[wb]? = some (.cells #[.int .i64 y] 3 (0, 0))) : TS w' q fb wb d off c ts y :=
  { h with
    hv := grown_cell k h.hv h.qw
    row := fun i t ht => ⟨grown_cell k (h.row i t ht).1 h.dw, grown_cell k (h.row i t ht).2.1 h.dw, grown_cell k (h.row i t ht).2.2.1 h.dw, (h.row i t ht).2.2.2⟩
    dlt := Nat.lt_of_lt_of_le h.dlt k.size
    hf := grown_cell k h.hf h.fw
    hw := hw }
theorem TS.wlt {w : World} {q fb wb d off c : Nat} {ts : List Tm} {x : Int} (h : TS w q fb wb d off c ts x) : wb < w.heap.size := (Array.getElem?_eq_some_iff.1 h.hw).1
theorem grown_of_lower {w w' : World} (h : Below w.heap.size w w') (r : Option Nat) : w.grownBy w' r := ⟨h.os, h.tape, h.output, h.size, fun j hj _ => h.block j hj⟩
theorem TS.below {w w' : World} {q fb wb d off c : Nat} {ts : List Tm} {x : Int} (h : TS w q fb wb d off c ts x) (k : Below w.heap.size w w') : TS w' q fb wb d off c ts x :=
  h.kept (grown_of_lower k _) (by rw [k.block _ h.wlt]; exact h.hw)

theorem TS.belowB {B : Nat} {w w' : World} {q fb wb d off c : Nat} {ts : List Tm} {x : Int} (h : TS w q fb wb d off c ts x) (k : Below B w w') (hq : q < B) (hfb : fb < B) (hwb : wb < B) (hd : d < B) : TS w' q fb wb d off c ts x :=
  { h with
    hv := (k.cell (p := ⟨q, 0, none⟩) hq).trans h.hv
    row := h.row.below k hd
    dlt := Nat.lt_of_lt_of_le h.dlt k.size
    hf := (k.cell (p := ⟨fb, 0, none⟩) hfb).trans h.hf
    hw := by rw [k.block _ hwb]; exact h.hw }
theorem grownB {a w w' : World} {r : Option Nat} (h : a.grownBy w r) (k : Below a.heap.size w w') : a.grownBy w' r :=
  ⟨k.os.trans h.os, k.tape.trans h.tape, k.output.trans h.output, Nat.le_trans h.size k.size, fun j hj hr => (k.block j hj).trans (h.block j hj hr)⟩
theorem cells_wb {w : World} {wb : Nat} {x : Int} (h : w.heap[wb]? = some (.cells #[.int .i64 x] 3 (0, 0))) : w.cell? ⟨wb, 0, none⟩ = some (.int .i64 x) ∧ w.frozen? ⟨wb, 0, none⟩ = false := by
  refine ⟨by rw [Lib.cell_of_heap h]; rfl, Lib.frozen_of_heap h 0⟩
theorem wb_set {w : World} {wb : Nat} {x y : Int} (h : w.heap[wb]? = some (.cells #[.int .i64 x] 3 (0, 0))) : (w.setCell ⟨wb, 0, none⟩ (.int .i64 y)).heap[wb]? = some (.cells #[.int .i64 y] 3 (0, 0)) := by
  simp [World.setCell, Array.getElem?_modify, h]

/-- A slice that owns ints. -/
def OwnInts (w : World) (B : Nat) (v : Value) (xs : List Int) : Prop := w.ownsRow B 3 1 v xs.length (xs.map (Value.int .i64))
theorem OwnInts.kept {w w' : World} {B : Nat} {v : Value} {xs : List Int} (h : OwnInts w B v xs) {wb : Nat} (k : w.grownBy w' (some wb)) (hb : wb < B) : OwnInts w' B v xs :=
  World.ownsRow.kept h k (by
    cases hv : v.ownBlock with
    | none => simp
    | some g => have := (World.ownsRow.lt h g hv).1; right; simp; omega)
theorem OwnInts.ints {w : World} {B : Nat} {v : Value} {xs : List Int} (h : OwnInts w B v xs) : IntsIn w v xs := by
  rcases owns_shape1 h with ⟨rfl, h0⟩ | ⟨g, cap, rfl, hn, hcap, hB, hg, hc⟩
  · obtain rfl : xs = [] := by simpa using h0
    exact ⟨none, 0, rfl, Nat.le_refl _, fun h => absurd rfl h⟩
  · exact ⟨_, cap, rfl, hn, fun _ => ⟨g, rfl, hg, fun j x hx => hc j _ (by simp [hx])⟩⟩
theorem contains_ints (v : Value) (xs : List Int) (x : Int) (w : World) (h : IntsIn w v xs) (hl : xs.length ≤ 60) :
    Calls Tryz.prog 50 #[v, .int .i64 x] w fun e w' => e = .returned (.bool (xs.contains x)) ∧ w' = w := by
  obtain ⟨a, c, rfl, hc, hcell⟩ := h
  by_cases h0 : xs = []
  · subst h0
    exact Tryz.slices_Contains_int_empty a c x w
  · obtain ⟨b, rfl, _, hcc⟩ := hcell h0
    refine (Tryz.slices_Contains_int b 0 xs.length c xs x w (Nat.le_refl _) (by omega) (fun j hj => ?_)).mono ?_
    · rw [Nat.zero_add]
      exact hcc j _ (by simp [hj])
    · rintro e w' ⟨rfl, rfl⟩
      rw [List.take_length]; exact ⟨rfl, rfl⟩

def T1 (q fb wb d off c : Nat) (ts : List Tm) (f : Fm) : Prop :=
  ∀ (pre post : List Tm) (i x : Int) (w : World), f.wf → ts = pre ++ (f.flat ++ post) → i = (pre.length : Int) → TS w q fb wb d off c ts x → -1 ≤ x → x ≤ 100 →
    Calls Tryz.prog 48 #[.int .i64 i, .pointer (some ⟨q, 0, none⟩), .pointer (some ⟨fb, 0, none⟩), .pointer (some ⟨wb, 0, none⟩)] w fun e w' =>
      e = .returned (.tuple #[.int .i64 (Pl.ty f), .int .i64 (i + f.flat.length)]) ∧ TS w' q fb wb d off c ts (Pl.wrongAt f i x) ∧ w.grownBy w' (some wb)

theorem mid_get' {ts pre post : List Tm} {t : Tm} (h : ts = pre ++ (t :: post)) : ts[pre.length]? = some t := by rw [h]; simp
set_option maxRecDepth 100000 in
set_option maxHeartbeats 2000000 in
theorem t1_leaf (q fb wb d off c : Nat) (ts : List Tm) (hl : ts.length ≤ 60) (t : Tm) : T1 q fb wb d off c ts (.lf t) := by
  intro pre post i x w hwf hts hi h hx0 hx1
  have hget := mid_get' (t := t) (post := post) (by simpa [Fm.flat] using hts)
  have hlt : pre.length < ts.length := (List.getElem?_eq_some_iff.1 hget).1
  obtain ⟨m0, m1, m2, m3⟩ := h.row pre.length t hget
  have hv := h.hv
  have hcap := h.cap
  have hk := hwf.2
  have hn0 : Pl.typedOf t [] ≠ 0 := by
    have h1 := hwf.1
    have := Pl.operandsOf_cases t.k (by omega)
    by_cases h123 : t.k = 1 ∨ t.k = 2 ∨ t.k = 3
    · unfold Pl.typedOf; rw [if_pos h123]; omega
    · have h4 : t.k = 4 := by
        unfold Pl.operandsOf at hk
        split at hk
        · omega
        · split at hk
          · omega
          · split at hk <;> (try split at hk) <;> omega
      unfold Pl.typedOf; rw [if_neg h123, if_pos h4]
      simp [Pl.formed, h4] at h1; omega
  obtain ⟨r, hr⟩ : ∃ r, r = Pl.typedOf t [] := ⟨_, rfl⟩
  have HR := Lib.hid hr
  have hr0 : (r == 0) = false := by rw [hr]; simpa using hn0
  have H := Lib.hid h
  have hk2 := Lib.hid hk
  clear h hwf hts hget hr hn0 hk
  obtain ⟨k, n, s⟩ := t
  simp only at *
  subst hi
  go_enter Tryz.func48, Tryz.ntmps48
  go_wp2_with (first
    | (go_at_call 49; go_loud (refine (operands_any _ _).mono ?_); rintro e w' ⟨he, rfl⟩; rw [hk2.out] at he; subst he))
  refine wp_loop_rounds 1 ?_
  rw [rounds_succ]
  go_wp2_with (first
    | (go_at_call 50; go_loud (refine (contains_ints _ [] 0 _ ⟨none, 0, rfl, Nat.le_refl _, fun h => absurd rfl h⟩ (by simp)).mono ?_); rintro e w' ⟨rfl, rfl⟩)
    | (go_at_call 51; go_loud (refine (typed_any ⟨k, n, s⟩ _ [] _ ⟨none, 0, rfl, Nat.le_refl _, fun h => absurd rfl h⟩ (by simp; omega) (by simp) (by simp) r HR).mono ?_); rintro e w' ⟨rfl, hb⟩; have Hb := Lib.hid hb; clear hb))
  go_ret2
  refine ⟨?_, H.out.below Hb.out, grown_of_lower Hb.out _⟩
  rw [HR.out]; rfl
end Go.Proofs.YtchoelgkcnnnkaaGreatDoor
namespace Go.Proofs.YtchoelgkcnnnkaaGreatDoor
open Go.RowKit
theorem own_append_below {B : Nat} {W w2 : World} {v : Value} {xs : List Int} (hB : B ≤ W.heap.size) (o : Obj) (hown : OwnInts W B v xs) (hg : (W.alloc o).grownBy w2 v.ownBlock) : Below B W w2 :=
  ((Below.refl B W).alloc hB o).grown hg (by simp; omega) (fun k hk => (World.ownsRow.lt hown k hk).1)
set_option maxRecDepth 100000 in
set_option maxHeartbeats 2000000 in
theorem t1_un (q fb wb d off c : Nat) (ts : List Tm) (hl : ts.length ≤ 60) (t : Tm) (f : Fm) (ihf : T1 q fb wb d off c ts f) : T1 q fb wb d off c ts (.un t f) := by
  intro pre post i x w hwf hts hi h hx0 hx1
  have hget := mid_get' (t := t) (post := f.flat ++ post) (by simpa [Fm.flat] using hts)
  have hlt : pre.length < ts.length := (List.getElem?_eq_some_iff.1 hget).1
  obtain ⟨m0, m1, m2, m3⟩ := h.row pre.length t hget
  have hv := h.hv
  have hcap := h.cap
  have hf0 := h.hf
  have hqB := lt_of_cell hv
  have hfB := lt_of_cell hf0
  have hwB := h.wlt
  have hdB := h.dlt
  have hlen : (pre.length : Int) + 1 + (f.flat.length : Int) ≤ 60 := by have := congrArg List.length hts; simp [Fm.flat] at this; omega
  obtain ⟨i0, hi0, hz0, hz1, hz2⟩ := info_parts info3
  obtain ⟨r, hr⟩ : ∃ r, r = Pl.typedOf t [Pl.ty f] := ⟨_, rfl⟩
  have HR := Lib.hid hr
  obtain ⟨cz, HZ⟩ : ∃ cz, Hid (cz = List.contains [Pl.ty f] (0 : Int)) := ⟨_, Lib.hid rfl⟩
  have tyf := Pl.ty_range f
  obtain ⟨xf, hxf⟩ : ∃ xf, xf = Pl.wrongAt f (i + 1) x := ⟨_, rfl⟩
  have hxrf := Pl.wrongAt_range f (i + 1) x (by omega) (by omega) (by omega) (by omega)
  rw [← hxf] at hxrf
  have HXf := Lib.hid hxf
  clear hxf
  have HK := Lib.hid hwf.2.1
  have H := Lib.hid h
  have HT := Lib.hid hts
  have HW := Lib.hid hwf
  clear h hwf hts hget hr
  obtain ⟨k, n, s⟩ := t
  simp only at *
  subst hi
  go_enter Tryz.func48, Tryz.ntmps48
  go_wp2_with (go_at_call 49; go_loud (refine (operands_any _ _).mono ?_); rintro e w' ⟨he, rfl⟩; rw [HK.out] at he; subst he)
  refine wp_loop_rounds 2 ?_
  rw [rounds_succ]
  go_wp2_with fail
  refine (ihf (pre ++ [⟨k, n, s⟩]) (post) _ _ _ HW.out.2.2 (by rw [HT.out]; simp [Fm.flat]) (by simp; try omega) H.out hx0 hx1).mono ?_
  rintro e wf ⟨rfl, hf, kf⟩
  have hf' : TS wf q fb wb d off c ts xf := by rw [HXf.out]; exact hf
  clear hf
  have ownf : OwnInts wf w.heap.size (.slice none 0 0) [] := World.ownsRow_nil _ _ _ _
  have kkf : w.grownBy wf (some wb) := kf
  have szf := kkf.size
  clear kf
  go_wp2_with (at_builtin; go_loud (refine wpList_append_own _ rfl _ _ 46 rfl w.heap.size 3 i0 (.int .i64 0) 1 8 Tryz.underlying46 hi0 hz0 hz1 hz2 rfl (by decide) _ _ _ rfl (World.ownsRow.alloc ownf _) ⟨wf.heap.size, 0, none⟩ 1 1 [.int .i64 (Pl.ty f)] rfl rfl (cell_one_new _ _ _) (by simp [Value.oneCell']) (by simp [maxLen]) (by simp) (by simp; omega) ?_))
  intro vf Wf ownf' grf _
  have blf := own_append_below szf _ ownf grf
  have ownf' : OwnInts Wf w.heap.size vf [Pl.ty f] := ownf'
  have tf' := hf'.belowB blf hqB hfB hwB hdB
  have kkf' := grownB kkf blf
  have hfcf := tf'.hf
  clear grf ownf kkf hf'
  have blf := blf.size
  go_wp2_with fail
  rw [rounds_succ]
  have hvl := tf'.hv
  obtain ⟨cw, fw⟩ := cells_wb tf'.hw
  have HIN := Lib.hid ownf'.ints
  have row := tf'.row pre.length ⟨k, n, s⟩ (mid_get' (post := f.flat ++ post) (by rw [HT.out]; simp [Fm.flat]))
  obtain ⟨n0, n1, n2, n3⟩ := row
  cases cz with
  | true =>
    go_wp2_with (go_at_call 50; go_loud (refine (contains_ints _ [Pl.ty f] 0 _ HIN.out (by simp)).mono ?_); rintro e w' ⟨he, rfl⟩; rw [← HZ.out] at he; subst he)
    go_ret2
    have hz : Pl.ty f = 0 := by have := HZ.out; simp at this; omega
    refine ⟨ret_int2 ?_ (by simp [Fm.flat]; omega), ?_, kkf'⟩
    · simp only [Pl.ty]; rw [if_pos hz]
    · simp only [Pl.wrongAt]; rw [if_neg (by omega), ← HXf.out]; exact tf'
  | false =>
    have hz : Pl.ty f ≠ 0 := by have := HZ.out; simp at this; omega
    have HZ2 := Lib.hid hz
    have HX3 : Hid (∀ x ∈ [Pl.ty f], 1 ≤ x ∧ x ≤ 3) := Lib.hid (by simp; omega)
    clear hz
    by_cases hr0 : r = 0
    · subst hr0
      go_wp2_with (first
        | (go_at_call 50; go_loud (refine (contains_ints _ [Pl.ty f] 0 _ HIN.out (by simp)).mono ?_); rintro e w' ⟨he, rfl⟩; rw [← HZ.out] at he; subst he)
        | (go_at_call 51; go_loud (refine (typed_any ⟨k, n, s⟩ _ [Pl.ty f] _ HIN.out (by simp; omega) (by simp) HX3.out 0 HR).mono ?_); rintro e w9 ⟨rfl, hb⟩; have cw9 := (hb.cell (p := ⟨wb, 0, none⟩) tf'.wlt).trans cw; have fw9 := (hb.frozen (p := ⟨wb, 0, none⟩) tf'.wlt).trans fw; have Hb := Lib.hid hb; clear hb))
      go_ret2
      have t9 := tf'.below Hb.out
      have hwr : Pl.wrongAt (.un ⟨k, n, s⟩ f) pre.length x = max xf pre.length := by
        simp only [Pl.wrongAt]; rw [if_pos ⟨HZ2.out, HR.out.symm⟩, ← HXf.out]
      refine ⟨ret_int2 ?_ (by simp [Fm.flat]; omega), ?_, Lib.grownBy_trans (grownB kkf' (Hb.out.mono kkf'.size)) (grownBy_setCell' _ wb _)⟩
      · simp only [Pl.ty]; rw [if_neg (by have := HZ2.out; omega)]; exact HR.out
      · rw [hwr]; exact t9.kept (grownBy_setCell' _ wb _) (wb_set t9.hw)
    · have hr1 : (r == 0) = false := by simpa using hr0
      go_wp2_with (first
        | (go_at_call 50; go_loud (refine (contains_ints _ [Pl.ty f] 0 _ HIN.out (by simp)).mono ?_); rintro e w' ⟨he, rfl⟩; rw [← HZ.out] at he; subst he)
        | (go_at_call 51; go_loud (refine (typed_any ⟨k, n, s⟩ _ [Pl.ty f] _ HIN.out (by simp; omega) (by simp) HX3.out r HR).mono ?_); rintro e w9 ⟨rfl, hb⟩; have Hb := Lib.hid hb; clear hb))
      go_ret2
      refine ⟨ret_int2 ?_ (by simp [Fm.flat]; omega), ?_, grownB kkf' (Hb.out.mono kkf'.size)⟩
      · simp only [Pl.ty]; rw [if_neg (by have := HZ2.out; omega)]; exact HR.out
      · simp only [Pl.wrongAt]; rw [if_neg (by rw [← HR.out]; simp [hr0]), ← HXf.out]; exact tf'.below Hb.out

set_option maxRecDepth 100000 in
set_option maxHeartbeats 2000000 in
theorem t1_bi (q fb wb d off c : Nat) (ts : List Tm) (hl : ts.length ≤ 60) (t : Tm) (f g : Fm) (ihf : T1 q fb wb d off c ts f) (ihg : T1 q fb wb d off c ts g) : T1 q fb wb d off c ts (.bi t f g) := by
  intro pre post i x w hwf hts hi h hx0 hx1
  have hget := mid_get' (t := t) (post := f.flat ++ (g.flat ++ post)) (by simpa [Fm.flat] using hts)
  have hlt : pre.length < ts.length := (List.getElem?_eq_some_iff.1 hget).1
  obtain ⟨m0, m1, m2, m3⟩ := h.row pre.length t hget
  have hv := h.hv
  have hcap := h.cap
  have hf0 := h.hf
  have hqB := lt_of_cell hv
  have hfB := lt_of_cell hf0
  have hwB := h.wlt
  have hdB := h.dlt
  have hlen : (pre.length : Int) + 1 + (f.flat.length : Int) + (g.flat.length : Int) ≤ 60 := by have := congrArg List.length hts; simp [Fm.flat] at this; omega
  obtain ⟨i0, hi0, hz0, hz1, hz2⟩ := info_parts info3
  obtain ⟨r, hr⟩ : ∃ r, r = Pl.typedOf t [Pl.ty f, Pl.ty g] := ⟨_, rfl⟩
  have HR := Lib.hid hr
  obtain ⟨cz, HZ⟩ : ∃ cz, Hid (cz = List.contains [Pl.ty f, Pl.ty g] (0 : Int)) := ⟨_, Lib.hid rfl⟩
  have tyf := Pl.ty_range f
  obtain ⟨xf, hxf⟩ : ∃ xf, xf = Pl.wrongAt f (i + 1) x := ⟨_, rfl⟩
  have hxrf := Pl.wrongAt_range f (i + 1) x (by omega) (by omega) (by omega) (by omega)
  rw [← hxf] at hxrf
  have HXf := Lib.hid hxf
  clear hxf
  have tyg := Pl.ty_range g
  obtain ⟨xg, hxg⟩ : ∃ xg, xg = Pl.wrongAt g (i + 1 + f.flat.length) xf := ⟨_, rfl⟩
  have hxrg := Pl.wrongAt_range g (i + 1 + f.flat.length) xf (by omega) (by omega) (by omega) (by omega)
  rw [← hxg] at hxrg
  have HXg := Lib.hid hxg
  clear hxg
  have HK := Lib.hid hwf.2.1
  have H := Lib.hid h
  have HT := Lib.hid hts
  have HW := Lib.hid hwf
  clear h hwf hts hget hr
  obtain ⟨k, n, s⟩ := t
  simp only at *
  subst hi
  go_enter Tryz.func48, Tryz.ntmps48
  go_wp2_with (go_at_call 49; go_loud (refine (operands_any _ _).mono ?_); rintro e w' ⟨he, rfl⟩; rw [HK.out] at he; subst he)
  refine wp_loop_rounds 3 ?_
  rw [rounds_succ]
  go_wp2_with fail
  refine (ihf (pre ++ [⟨k, n, s⟩]) (g.flat ++ (post)) _ _ _ HW.out.2.2.1 (by rw [HT.out]; simp [Fm.flat]) (by simp; try omega) H.out hx0 hx1).mono ?_
  rintro e wf ⟨rfl, hf, kf⟩
  have hf' : TS wf q fb wb d off c ts xf := by rw [HXf.out]; exact hf
  clear hf
  have ownf : OwnInts wf w.heap.size (.slice none 0 0) [] := World.ownsRow_nil _ _ _ _
  have kkf : w.grownBy wf (some wb) := kf
  have szf := kkf.size
  clear kf
  go_wp2_with (at_builtin; go_loud (refine wpList_append_own _ rfl _ _ 46 rfl w.heap.size 3 i0 (.int .i64 0) 1 8 Tryz.underlying46 hi0 hz0 hz1 hz2 rfl (by decide) _ _ _ rfl (World.ownsRow.alloc ownf _) ⟨wf.heap.size, 0, none⟩ 1 1 [.int .i64 (Pl.ty f)] rfl rfl (cell_one_new _ _ _) (by simp [Value.oneCell']) (by simp [maxLen]) (by simp) (by simp; omega) ?_))
  intro vf Wf ownf' grf _
  have blf := own_append_below szf _ ownf grf
  have ownf' : OwnInts Wf w.heap.size vf [Pl.ty f] := ownf'
  have tf' := hf'.belowB blf hqB hfB hwB hdB
  have kkf' := grownB kkf blf
  have hfcf := tf'.hf
  clear grf ownf kkf hf'
  have blf := blf.size
  go_wp2_with fail
  rw [rounds_succ]
  go_wp2_with fail
  refine (ihg (pre ++ [⟨k, n, s⟩] ++ f.flat) (post) _ _ _ HW.out.2.2.2 (by rw [HT.out]; simp [Fm.flat]) (by simp; try omega) tf' (by omega) (by omega)).mono ?_
  rintro e wg ⟨rfl, hg, kg⟩
  have hg' : TS wg q fb wb d off c ts xg := by rw [HXg.out]; exact hg
  clear hg
  have owng : OwnInts wg w.heap.size vf [Pl.ty f] := ownf'.kept kg hwB
  have kkg : w.grownBy wg (some wb) := Lib.grownBy_trans kkf' kg
  have szg := kkg.size
  clear kg
  go_wp2_with (at_builtin; go_loud (refine wpList_append_own _ rfl _ _ 46 rfl w.heap.size 3 i0 (.int .i64 0) 1 8 Tryz.underlying46 hi0 hz0 hz1 hz2 rfl (by decide) _ _ _ rfl (World.ownsRow.alloc owng _) ⟨wg.heap.size, 0, none⟩ 1 1 [.int .i64 (Pl.ty g)] rfl rfl (cell_one_new _ _ _) (by simp [Value.oneCell']) (by simp [maxLen]) (by simp) (by simp; omega) ?_))
  intro vg Wg owng' grg _
  have blg := own_append_below szg _ owng grg
  have owng' : OwnInts Wg w.heap.size vg [Pl.ty f, Pl.ty g] := owng'
  have tg' := hg'.belowB blg hqB hfB hwB hdB
  have kkg' := grownB kkg blg
  have hfcg := tg'.hf
  clear grg owng kkg hg'
  have blg := blg.size
  go_wp2_with fail
  rw [rounds_succ]
  have hvl := tg'.hv
  obtain ⟨cw, fw⟩ := cells_wb tg'.hw
  have HIN := Lib.hid owng'.ints
  have row := tg'.row pre.length ⟨k, n, s⟩ (mid_get' (post := f.flat ++ (g.flat ++ post)) (by rw [HT.out]; simp [Fm.flat]))
  obtain ⟨n0, n1, n2, n3⟩ := row
  cases cz with
  | true =>
    go_wp2_with (go_at_call 50; go_loud (refine (contains_ints _ [Pl.ty f, Pl.ty g] 0 _ HIN.out (by simp)).mono ?_); rintro e w' ⟨he, rfl⟩; rw [← HZ.out] at he; subst he)
    go_ret2
    have hz : Pl.ty f = 0 ∨ Pl.ty g = 0 := by have := HZ.out; simp at this; omega
    refine ⟨ret_int2 ?_ (by simp [Fm.flat]; omega), ?_, kkg'⟩
    · simp only [Pl.ty]; rw [if_pos hz]
    · simp only [Pl.wrongAt]; rw [if_neg (by omega), ← HXf.out, ← HXg.out]; exact tg'
  | false =>
    have hz : Pl.ty f ≠ 0 ∧ Pl.ty g ≠ 0 := by have := HZ.out; simp at this; omega
    have HZ2 := Lib.hid hz
    have HX3 : Hid (∀ x ∈ [Pl.ty f, Pl.ty g], 1 ≤ x ∧ x ≤ 3) := Lib.hid (by simp; omega)
    clear hz
    by_cases hr0 : r = 0
    · subst hr0
      go_wp2_with (first
        | (go_at_call 50; go_loud (refine (contains_ints _ [Pl.ty f, Pl.ty g] 0 _ HIN.out (by simp)).mono ?_); rintro e w' ⟨he, rfl⟩; rw [← HZ.out] at he; subst he)
        | (go_at_call 51; go_loud (refine (typed_any ⟨k, n, s⟩ _ [Pl.ty f, Pl.ty g] _ HIN.out (by simp; omega) (by simp) HX3.out 0 HR).mono ?_); rintro e w9 ⟨rfl, hb⟩; have cw9 := (hb.cell (p := ⟨wb, 0, none⟩) tg'.wlt).trans cw; have fw9 := (hb.frozen (p := ⟨wb, 0, none⟩) tg'.wlt).trans fw; have Hb := Lib.hid hb; clear hb))
      go_ret2
      have t9 := tg'.below Hb.out
      have hwr : Pl.wrongAt (.bi ⟨k, n, s⟩ f g) pre.length x = max xg pre.length := by
        simp only [Pl.wrongAt]; rw [if_pos ⟨HZ2.out, HR.out.symm⟩, ← HXf.out, ← HXg.out]
      refine ⟨ret_int2 ?_ (by simp [Fm.flat]; omega), ?_, Lib.grownBy_trans (grownB kkg' (Hb.out.mono kkg'.size)) (grownBy_setCell' _ wb _)⟩
      · simp only [Pl.ty]; rw [if_neg (by have := HZ2.out; omega)]; exact HR.out
      · rw [hwr]; exact t9.kept (grownBy_setCell' _ wb _) (wb_set t9.hw)
    · have hr1 : (r == 0) = false := by simpa using hr0
      go_wp2_with (first
        | (go_at_call 50; go_loud (refine (contains_ints _ [Pl.ty f, Pl.ty g] 0 _ HIN.out (by simp)).mono ?_); rintro e w' ⟨he, rfl⟩; rw [← HZ.out] at he; subst he)
        | (go_at_call 51; go_loud (refine (typed_any ⟨k, n, s⟩ _ [Pl.ty f, Pl.ty g] _ HIN.out (by simp; omega) (by simp) HX3.out r HR).mono ?_); rintro e w9 ⟨rfl, hb⟩; have Hb := Lib.hid hb; clear hb))
      go_ret2
      refine ⟨ret_int2 ?_ (by simp [Fm.flat]; omega), ?_, grownB kkg' (Hb.out.mono kkg'.size)⟩
      · simp only [Pl.ty]; rw [if_neg (by have := HZ2.out; omega)]; exact HR.out
      · simp only [Pl.wrongAt]; rw [if_neg (by rw [← HR.out]; simp [hr0]), ← HXf.out, ← HXg.out]; exact tg'.below Hb.out

set_option maxRecDepth 100000 in
set_option maxHeartbeats 2000000 in
theorem t1_tr (q fb wb d off c : Nat) (ts : List Tm) (hl : ts.length ≤ 60) (t : Tm) (f g u : Fm) (ihf : T1 q fb wb d off c ts f) (ihg : T1 q fb wb d off c ts g) (ihu : T1 q fb wb d off c ts u) : T1 q fb wb d off c ts (.tr t f g u) := by
  intro pre post i x w hwf hts hi h hx0 hx1
  have hget := mid_get' (t := t) (post := f.flat ++ (g.flat ++ (u.flat ++ post))) (by simpa [Fm.flat] using hts)
  have hlt : pre.length < ts.length := (List.getElem?_eq_some_iff.1 hget).1
  obtain ⟨m0, m1, m2, m3⟩ := h.row pre.length t hget
  have hv := h.hv
  have hcap := h.cap
  have hf0 := h.hf
  have hqB := lt_of_cell hv
  have hfB := lt_of_cell hf0
  have hwB := h.wlt
  have hdB := h.dlt
  have hlen : (pre.length : Int) + 1 + (f.flat.length : Int) + (g.flat.length : Int) + (u.flat.length : Int) ≤ 60 := by have := congrArg List.length hts; simp [Fm.flat] at this; omega
  obtain ⟨i0, hi0, hz0, hz1, hz2⟩ := info_parts info3
  obtain ⟨r, hr⟩ : ∃ r, r = Pl.typedOf t [Pl.ty f, Pl.ty g, Pl.ty u] := ⟨_, rfl⟩
  have HR := Lib.hid hr
  obtain ⟨cz, HZ⟩ : ∃ cz, Hid (cz = List.contains [Pl.ty f, Pl.ty g, Pl.ty u] (0 : Int)) := ⟨_, Lib.hid rfl⟩
  have tyf := Pl.ty_range f
  obtain ⟨xf, hxf⟩ : ∃ xf, xf = Pl.wrongAt f (i + 1) x := ⟨_, rfl⟩
  have hxrf := Pl.wrongAt_range f (i + 1) x (by omega) (by omega) (by omega) (by omega)
  rw [← hxf] at hxrf
  have HXf := Lib.hid hxf
  clear hxf
  have tyg := Pl.ty_range g
  obtain ⟨xg, hxg⟩ : ∃ xg, xg = Pl.wrongAt g (i + 1 + f.flat.length) xf := ⟨_, rfl⟩
  have hxrg := Pl.wrongAt_range g (i + 1 + f.flat.length) xf (by omega) (by omega) (by omega) (by omega)
  rw [← hxg] at hxrg
  have HXg := Lib.hid hxg
  clear hxg
  have tyu := Pl.ty_range u
  obtain ⟨xu, hxu⟩ : ∃ xu, xu = Pl.wrongAt u (i + 1 + f.flat.length + g.flat.length) xg := ⟨_, rfl⟩
  have hxru := Pl.wrongAt_range u (i + 1 + f.flat.length + g.flat.length) xg (by omega) (by omega) (by omega) (by omega)
  rw [← hxu] at hxru
  have HXu := Lib.hid hxu
  clear hxu
  have HK := Lib.hid hwf.2.1
  have H := Lib.hid h
  have HT := Lib.hid hts
  have HW := Lib.hid hwf
  clear h hwf hts hget hr
  obtain ⟨k, n, s⟩ := t
  simp only at *
  subst hi
  go_enter Tryz.func48, Tryz.ntmps48
  go_wp2_with (go_at_call 49; go_loud (refine (operands_any _ _).mono ?_); rintro e w' ⟨he, rfl⟩; rw [HK.out] at he; subst he)
  refine wp_loop_rounds 4 ?_
  rw [rounds_succ]
  go_wp2_with fail
  refine (ihf (pre ++ [⟨k, n, s⟩]) (g.flat ++ (u.flat ++ (post))) _ _ _ HW.out.2.2.1 (by rw [HT.out]; simp [Fm.flat]) (by simp; try omega) H.out hx0 hx1).mono ?_
  rintro e wf ⟨rfl, hf, kf⟩
  have hf' : TS wf q fb wb d off c ts xf := by rw [HXf.out]; exact hf
  clear hf
  have ownf : OwnInts wf w.heap.size (.slice none 0 0) [] := World.ownsRow_nil _ _ _ _
  have kkf : w.grownBy wf (some wb) := kf
  have szf := kkf.size
  clear kf
  go_wp2_with (at_builtin; go_loud (refine wpList_append_own _ rfl _ _ 46 rfl w.heap.size 3 i0 (.int .i64 0) 1 8 Tryz.underlying46 hi0 hz0 hz1 hz2 rfl (by decide) _ _ _ rfl (World.ownsRow.alloc ownf _) ⟨wf.heap.size, 0, none⟩ 1 1 [.int .i64 (Pl.ty f)] rfl rfl (cell_one_new _ _ _) (by simp [Value.oneCell']) (by simp [maxLen]) (by simp) (by simp; omega) ?_))
  intro vf Wf ownf' grf _
  have blf := own_append_below szf _ ownf grf
  have ownf' : OwnInts Wf w.heap.size vf [Pl.ty f] := ownf'
  have tf' := hf'.belowB blf hqB hfB hwB hdB
  have kkf' := grownB kkf blf
  have hfcf := tf'.hf
  clear grf ownf kkf hf'
  have blf := blf.size
  go_wp2_with fail
  rw [rounds_succ]
  go_wp2_with fail
  refine (ihg (pre ++ [⟨k, n, s⟩] ++ f.flat) (u.flat ++ (post)) _ _ _ HW.out.2.2.2.1 (by rw [HT.out]; simp [Fm.flat]) (by simp; try omega) tf' (by omega) (by omega)).mono ?_
  rintro e wg ⟨rfl, hg, kg⟩
  have hg' : TS wg q fb wb d off c ts xg := by rw [HXg.out]; exact hg
  clear hg
  have owng : OwnInts wg w.heap.size vf [Pl.ty f] := ownf'.kept kg hwB
  have kkg : w.grownBy wg (some wb) := Lib.grownBy_trans kkf' kg
  have szg := kkg.size
  clear kg
  go_wp2_with (at_builtin; go_loud (refine wpList_append_own _ rfl _ _ 46 rfl w.heap.size 3 i0 (.int .i64 0) 1 8 Tryz.underlying46 hi0 hz0 hz1 hz2 rfl (by decide) _ _ _ rfl (World.ownsRow.alloc owng _) ⟨wg.heap.size, 0, none⟩ 1 1 [.int .i64 (Pl.ty g)] rfl rfl (cell_one_new _ _ _) (by simp [Value.oneCell']) (by simp [maxLen]) (by simp) (by simp; omega) ?_))
  intro vg Wg owng' grg _
  have blg := own_append_below szg _ owng grg
  have owng' : OwnInts Wg w.heap.size vg [Pl.ty f, Pl.ty g] := owng'
  have tg' := hg'.belowB blg hqB hfB hwB hdB
  have kkg' := grownB kkg blg
  have hfcg := tg'.hf
  clear grg owng kkg hg'
  have blg := blg.size
  go_wp2_with fail
  rw [rounds_succ]
  go_wp2_with fail
  refine (ihu (pre ++ [⟨k, n, s⟩] ++ f.flat ++ g.flat) (post) _ _ _ HW.out.2.2.2.2 (by rw [HT.out]; simp [Fm.flat]) (by simp; try omega) tg' (by omega) (by omega)).mono ?_
  rintro e wu ⟨rfl, hu, ku⟩
  have hu' : TS wu q fb wb d off c ts xu := by rw [HXu.out]; exact hu
  clear hu
  have ownu : OwnInts wu w.heap.size vg [Pl.ty f, Pl.ty g] := owng'.kept ku hwB
  have kku : w.grownBy wu (some wb) := Lib.grownBy_trans kkg' ku
  have szu := kku.size
  clear ku
  go_wp2_with (at_builtin; go_loud (refine wpList_append_own _ rfl _ _ 46 rfl w.heap.size 3 i0 (.int .i64 0) 1 8 Tryz.underlying46 hi0 hz0 hz1 hz2 rfl (by decide) _ _ _ rfl (World.ownsRow.alloc ownu _) ⟨wu.heap.size, 0, none⟩ 1 1 [.int .i64 (Pl.ty u)] rfl rfl (cell_one_new _ _ _) (by simp [Value.oneCell']) (by simp [maxLen]) (by simp) (by simp; omega) ?_))
  intro vu Wu ownu' gru _
  have blu := own_append_below szu _ ownu gru
  have ownu' : OwnInts Wu w.heap.size vu [Pl.ty f, Pl.ty g, Pl.ty u] := ownu'
  have tu' := hu'.belowB blu hqB hfB hwB hdB
  have kku' := grownB kku blu
  have hfcu := tu'.hf
  clear gru ownu kku hu'
  have blu := blu.size
  go_wp2_with fail
  rw [rounds_succ]
  have hvl := tu'.hv
  obtain ⟨cw, fw⟩ := cells_wb tu'.hw
  have HIN := Lib.hid ownu'.ints
  have row := tu'.row pre.length ⟨k, n, s⟩ (mid_get' (post := f.flat ++ (g.flat ++ (u.flat ++ post))) (by rw [HT.out]; simp [Fm.flat]))
  obtain ⟨n0, n1, n2, n3⟩ := row
  cases cz with
  | true =>
    go_wp2_with (go_at_call 50; go_loud (refine (contains_ints _ [Pl.ty f, Pl.ty g, Pl.ty u] 0 _ HIN.out (by simp)).mono ?_); rintro e w' ⟨he, rfl⟩; rw [← HZ.out] at he; subst he)
    go_ret2
    have hz : Pl.ty f = 0 ∨ Pl.ty g = 0 ∨ Pl.ty u = 0 := by have := HZ.out; simp at this; omega
    refine ⟨ret_int2 ?_ (by simp [Fm.flat]; omega), ?_, kku'⟩
    · simp only [Pl.ty]; rw [if_pos hz]
    · simp only [Pl.wrongAt]; rw [if_neg (by omega), ← HXf.out, ← HXg.out, ← HXu.out]; exact tu'
  | false =>
    have hz : Pl.ty f ≠ 0 ∧ Pl.ty g ≠ 0 ∧ Pl.ty u ≠ 0 := by have := HZ.out; simp at this; omega
    have HZ2 := Lib.hid hz
    have HX3 : Hid (∀ x ∈ [Pl.ty f, Pl.ty g, Pl.ty u], 1 ≤ x ∧ x ≤ 3) := Lib.hid (by simp; omega)
    clear hz
    by_cases hr0 : r = 0
    · subst hr0
      go_wp2_with (first
        | (go_at_call 50; go_loud (refine (contains_ints _ [Pl.ty f, Pl.ty g, Pl.ty u] 0 _ HIN.out (by simp)).mono ?_); rintro e w' ⟨he, rfl⟩; rw [← HZ.out] at he; subst he)
        | (go_at_call 51; go_loud (refine (typed_any ⟨k, n, s⟩ _ [Pl.ty f, Pl.ty g, Pl.ty u] _ HIN.out (by simp; omega) (by simp) HX3.out 0 HR).mono ?_); rintro e w9 ⟨rfl, hb⟩; have cw9 := (hb.cell (p := ⟨wb, 0, none⟩) tu'.wlt).trans cw; have fw9 := (hb.frozen (p := ⟨wb, 0, none⟩) tu'.wlt).trans fw; have Hb := Lib.hid hb; clear hb))
      go_ret2
      have t9 := tu'.below Hb.out
      have hwr : Pl.wrongAt (.tr ⟨k, n, s⟩ f g u) pre.length x = max xu pre.length := by
        simp only [Pl.wrongAt]; rw [if_pos ⟨HZ2.out, HR.out.symm⟩, ← HXf.out, ← HXg.out, ← HXu.out]
      refine ⟨ret_int2 ?_ (by simp [Fm.flat]; omega), ?_, Lib.grownBy_trans (grownB kku' (Hb.out.mono kku'.size)) (grownBy_setCell' _ wb _)⟩
      · simp only [Pl.ty]; rw [if_neg (by have := HZ2.out; omega)]; exact HR.out
      · rw [hwr]; exact t9.kept (grownBy_setCell' _ wb _) (wb_set t9.hw)
    · have hr1 : (r == 0) = false := by simpa using hr0
      go_wp2_with (first
        | (go_at_call 50; go_loud (refine (contains_ints _ [Pl.ty f, Pl.ty g, Pl.ty u] 0 _ HIN.out (by simp)).mono ?_); rintro e w' ⟨he, rfl⟩; rw [← HZ.out] at he; subst he)
        | (go_at_call 51; go_loud (refine (typed_any ⟨k, n, s⟩ _ [Pl.ty f, Pl.ty g, Pl.ty u] _ HIN.out (by simp; omega) (by simp) HX3.out r HR).mono ?_); rintro e w9 ⟨rfl, hb⟩; have Hb := Lib.hid hb; clear hb))
      go_ret2
      refine ⟨ret_int2 ?_ (by simp [Fm.flat]; omega), ?_, grownB kku' (Hb.out.mono kku'.size)⟩
      · simp only [Pl.ty]; rw [if_neg (by have := HZ2.out; omega)]; exact HR.out
      · simp only [Pl.wrongAt]; rw [if_neg (by rw [← HR.out]; simp [hr0]), ← HXf.out, ← HXg.out, ← HXu.out]; exact tu'.below Hb.out

end Go.Proofs.YtchoelgkcnnnkaaGreatDoor
