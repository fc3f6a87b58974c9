/- PLAIN FACTS: what the operators give for two numbers, two truths, two texts. · WALKS: the operators of two numbers, and of two texts, and other formulas, as FormulaLaws calls them: what they give, written out. -/
import Derived.Test.YtchoelgkcnnnkaaGreatDoorSmE
set_option linter.all false
namespace Go.Proofs.YtchoelgkcnnnkaaGreatDoor
open Go.RowKit
namespace Pl
def n1 : ByteArray := ⟨#[110, 49]⟩
theorem env2_a (l : UInt8) (a b : Tm) : envOf [⟨#[l, 49]⟩, ⟨#[l, 50]⟩] [a, b] ⟨#[l, 49]⟩ = a := by simp [envOf]
theorem env2_b (l : UInt8) (a b : Tm) : envOf [⟨#[l, 49]⟩, ⟨#[l, 50]⟩] [a, b] ⟨#[l, 50]⟩ = b := by
  have h : ¬ ((⟨#[l, 49]⟩ : ByteArray) = ⟨#[l, 50]⟩) := by
    intro h
    have := congrArg (fun s : ByteArray => s.data.toList) h
    simp at this
  simp [envOf, h]
/-- The value of an operator for two values. -/
theorem of_val (kind : Int) (l : UInt8) (a b : Tm) : val (envOf [⟨#[l, 49]⟩, ⟨#[l, 50]⟩] [a, b]) (fmOf kind l) = app kind a b := by
  simp only [fmOf, val, if_true, env2_a, env2_b, Option.bind_some]
theorem names_num : ∀ (kind : Int) (l : UInt8), kind ≠ 4 → [⟨#[l, 49]⟩, ⟨#[l, 50]⟩] = namesOf [⟨kind, 0, ⟨#[]⟩⟩, ⟨4, 0, ⟨#[l, 49]⟩⟩, ⟨4, 0, ⟨#[l, 50]⟩⟩] := by
  intro kind l hk
  have h : ¬ ((⟨#[l, 49]⟩ : ByteArray) = ⟨#[l, 50]⟩) := by
    intro h
    have := congrArg (fun s : ByteArray => s.data.toList) h
    simp at this
  have h2 : ¬ ((⟨#[l, 50]⟩ : ByteArray) = ⟨#[l, 49]⟩) := fun e => h e.symm
  have c0 : ∀ x : ByteArray, Lib.containsS [] x = false := fun x => by
    cases e : Lib.containsS [] x with
    | false => rfl
    | true => exact absurd ((contains_iff _ _).1 e) (by simp)
  have c1 : Lib.containsS [(⟨#[l, 49]⟩ : ByteArray)] ⟨#[l, 50]⟩ = false := by
    cases e : Lib.containsS [(⟨#[l, 49]⟩ : ByteArray)] ⟨#[l, 50]⟩ with
    | false => rfl
    | true => exact absurd ((contains_iff _ _).1 e) (by simp)
  simp [namesOf, nameStep, hk, c0, c1]
theorem formed_name (l d : UInt8) (h : 0 < letterT l) (hd : isDig1 d = true) : formed ⟨4, 0, ⟨#[l, d]⟩⟩ = true := by
  simp [formed, typeOf, hd, h]
theorem of_wf (kind : Int) (l : UInt8) (hk : 8 ≤ kind ∧ kind ≤ 16) (h : 0 < letterT l) : (fmOf kind l).wf := by
  have hf : formed ⟨kind, 0, ⟨#[]⟩⟩ = true := by
    rcases (by omega : kind = 8 ∨ kind = 9 ∨ kind = 10 ∨ kind = 11 ∨ kind = 12 ∨ kind = 13 ∨ kind = 14 ∨ kind = 15 ∨ kind = 16) with rfl | rfl | rfl | rfl | rfl | rfl | rfl | rfl | rfl <;> decide +kernel
  refine ⟨hf, ?_, ⟨formed_name l 49 h (by decide), show operandsOf 4 = 0 from rfl⟩, ⟨formed_name l 50 h (by decide), show operandsOf 4 = 0 from rfl⟩⟩
  show operandsOf kind = 2
  unfold operandsOf
  rw [if_neg (by omega), if_neg (by omega), if_neg (by omega), if_pos (by omega)]
/-- The five operators of numbers, and the three of texts, have a type. -/
theorem of_ty_num (kind : Int) (hk : kind = 8 ∨ kind = 10 ∨ kind = 11 ∨ kind = 12) : ty (fmOf kind 110) ≠ 0 := by
  rcases hk with rfl | rfl | rfl | rfl <;> (intro h; cases (show (1 : Int) = 0 from h))
theorem of_ty_txt8 : ty (fmOf 8 115) ≠ 0 := by intro h; cases (show (3 : Int) = 0 from h)
theorem of_ty_txt (kind : Int) (hk : kind = 13 ∨ kind = 14) : ty (fmOf kind 115) ≠ 0 := by
  rcases hk with rfl | rfl <;> (intro h; cases (show (2 : Int) = 0 from h))
end Pl
end Go.Proofs.YtchoelgkcnnnkaaGreatDoor
namespace Go.Proofs.YtchoelgkcnnnkaaGreatDoor
open Go.RowKit
namespace Pl
def num (x : Int) : Tm := ⟨1, x, ⟨#[]⟩⟩
def txt (s : ByteArray) : Tm := ⟨3, 0, s⟩
theorem validV_txt (s : ByteArray) (h : s.size ≤ 400) : validV (txt s) = true := by
  have h' : (s.size : Int) ≤ 400 := by omega
  show (if (3 : Int) = 1 then _ else if (3 : Int) = 2 then _ else if (3 : Int) = 3 then decide ((0 : Int) = 0) && decide ((s.size : Int) ≤ 400) else false) = true
  rw [if_neg (by decide), if_neg (by decide), if_pos rfl, decide_eq_true h']
  rfl
theorem app_of {k : Int} {a b v : Tm} (h : opOf k a b = some v) (hv : validV v = true) : app k a b = some v := by
  unfold app; rw [h]; simp [hv]
theorem empty_cat : (⟨#[]⟩ : ByteArray) ++ ⟨#[]⟩ = ⟨#[]⟩ := rfl
theorem mul_small (x y : Int) (hx : -1000000 ≤ x ∧ x ≤ 1000000) (hy : -1000000 ≤ y ∧ y ≤ 1000000) : (x * y).natAbs ≤ 1000000000000 := by
  rw [Int.natAbs_mul]
  calc x.natAbs * y.natAbs ≤ 1000000 * 1000000 := Nat.mul_le_mul (by omega) (by omega)
    _ = 1000000000000 := rfl
theorem flq_small (x y : Int) (hx : -1000000 ≤ x ∧ x ≤ 1000000) : -1000001 ≤ flq x y ∧ flq x y ≤ 1000000 := by
  have h := tdiv_abs x y
  unfold flq
  split <;> omega
theorem flr_small (x y : Int) (hy : -1000000 ≤ y ∧ y ≤ 1000000) (h0 : y ≠ 0) : -1000000 ≤ flr x y ∧ flr x y ≤ 1000000 := by
  have h := flr_range x y h0
  rcases Int.lt_or_gt_of_ne h0 with h1 | h1
  · have := h.2 h1; omega
  · have := h.1 h1; omega
theorem app_sum (x y : Int) (hx : -1000000 ≤ x ∧ x ≤ 1000000) (hy : -1000000 ≤ y ∧ y ≤ 1000000) : app 8 (num x) (num y) = some (num (x + y)) :=
  app_of rfl (validV_num _ (by omega) (by omega))
theorem app_prod (x y : Int) (hx : -1000000 ≤ x ∧ x ≤ 1000000) (hy : -1000000 ≤ y ∧ y ≤ 1000000) : app 10 (num x) (num y) = some (num (x * y)) := by
  have h := mul_small x y hx hy
  refine app_of ?_ (validV_num _ (by omega) (by omega))
  show (if (x * y).natAbs ≤ 1000000000000 ∨ x * y = -9223372036854775808 then some (numV (x * y)) else none) = _
  rw [if_pos (.inl h)]; rfl
theorem app_quot (x y : Int) (hx : -1000000 ≤ x ∧ x ≤ 1000000) (h0 : y ≠ 0) : app 11 (num x) (num y) = some (num (flq x y)) := by
  have h := flq_small x y hx
  refine app_of ?_ (validV_num _ (by omega) (by omega))
  show (if y = 0 then none else some (numV (flq x y))) = _
  rw [if_neg h0]; rfl
theorem app_rest (x y : Int) (hy : -1000000 ≤ y ∧ y ≤ 1000000) (h0 : y ≠ 0) : app 12 (num x) (num y) = some (num (flr x y)) := by
  have h := flr_small x y hy h0
  refine app_of ?_ (validV_num _ (by omega) (by omega))
  show (if y = 0 then none else some (numV (flr x y))) = _
  rw [if_neg h0]; rfl
theorem app_zero (k x : Int) (hk : k = 11 ∨ k = 12) : app k (num x) (num 0) = none := by
  rcases hk with rfl | rfl <;> rfl
/-- One of two texts is less, or they are equal. -/
theorem tri : ∀ x y : List UInt8, ((if Op.bytesLess x y = true then 1 else 0) + (if Op.bytesLess y x = true then 1 else 0) + (if x = y then 1 else 0) : Int) = 1
  | [], [] => by simp [Op.bytesLess]
  | [], _ :: _ => by simp [Op.bytesLess]
  | _ :: _, [] => by simp [Op.bytesLess]
  | a :: x, b :: y => by
    have ih := tri x y
    by_cases hab : a = b
    · subst hab
      simp [Op.bytesLess] at ih ⊢
      exact ih
    · have hba : ¬ b = a := fun e => hab e.symm
      by_cases hl : a < b
      · have hnl : ¬ b < a := UInt8.lt_asymm hl
        simp [Op.bytesLess, hab, hba, hl, hnl]
      · have hnl : b < a := by
          rcases UInt8.lt_or_lt_of_ne hab with h | h
          · exact absurd h hl
          · exact h
        simp [Op.bytesLess, hab, hba, hl, hnl]
def lessS (s t : ByteArray) : Int := if Op.bytesLess s.toList t.toList = true then 1 else 0
def sameS (s t : ByteArray) : Int := if (s.toList == t.toList) = true then 1 else 0
theorem tri_S (s t : ByteArray) : lessS s t + lessS t s + sameS s t = 1 := by
  have := tri s.toList t.toList
  unfold lessS sameS
  by_cases h : s.toList = t.toList <;> simp [h] at this ⊢ <;> omega
theorem app_less (s t : ByteArray) : app 14 (txt s) (txt t) = some ⟨2, lessS s t, ⟨#[]⟩⟩ := by
  have e : opOf 14 (txt s) (txt t) = some ⟨2, lessS s t, ⟨#[]⟩⟩ := by
    show some (truthV (lessB (txt s) (txt t))) = _
    unfold lessB lessS txt cmpB truthV
    by_cases h1 : Op.bytesLess s.toList t.toList = true
    · simp [h1, Lib.compareInt]
    · by_cases h2 : (!s.toList == t.toList) = true <;> simp [h1, h2, Lib.compareInt]
  refine app_of e ?_
  unfold lessS; split <;> decide +kernel
theorem app_same (s t : ByteArray) : app 13 (txt s) (txt t) = some ⟨2, sameS s t, ⟨#[]⟩⟩ := by
  have e : opOf 13 (txt s) (txt t) = some ⟨2, sameS s t, ⟨#[]⟩⟩ := by
    show some (truthV ((txt s).k == (txt t).k && ((txt s).n == (txt t).n && ((txt s).s.toList == (txt t).s.toList)))) = _
    unfold sameS txt truthV
    by_cases h : (s.toList == t.toList) = true <;> simp [h]
  refine app_of e ?_
  unfold sameS; split <;> decide +kernel
theorem app_cat (s t : ByteArray) (hs : s.size ≤ 40) (ht : t.size ≤ 40) : app 8 (txt s) (txt t) = some (txt (s ++ t)) := by
  refine app_of rfl (validV_txt _ ?_)
  rw [ByteArray.size_append]; omega
end Pl
theorem of_num (kind x y z : Int) (w : World) (hk : kind = 8 ∨ kind = 10 ∨ kind = 11 ∨ kind = 12) (hx : -1000000 ≤ x ∧ x ≤ 1000000) (hy : -1000000 ≤ y ∧ y ≤ 1000000) (HZ : Hid (Pl.app kind (Pl.num x) (Pl.num y) = some (Pl.num z))) :
    Calls Tryz.prog 35 #[.int .i64 kind, .agg #[.int .i64 1, .int .i64 x, .string ⟨#[]⟩], .agg #[.int .i64 1, .int .i64 y, .string ⟨#[]⟩]] w fun e w' => e = .returned (.tuple #[.agg #[.int .i64 1, .int .i64 z, .string ⟨#[]⟩], .bool true]) ∧ Below w.heap.size w w' := by
  refine (of_any kind 0 110 (Pl.num x) (Pl.num y) w (some (Pl.num z)) (by omega) rfl rfl rfl (validV_num x (by omega) (by omega)) (validV_num y (by omega) (by omega)) (Pl.of_wf kind 110 (by omega) (by decide)) (Pl.of_ty_num kind hk) (Pl.names_num kind 110 (by omega)) (Lib.hid ?_)).mono fun e w' h => h
  rw [Pl.of_val]; exact HZ.out.symm
theorem of_none (kind x : Int) (w : World) (hk : kind = 11 ∨ kind = 12) (hx : -1000000 ≤ x ∧ x ≤ 1000000) :
    Calls Tryz.prog 35 #[.int .i64 kind, .agg #[.int .i64 1, .int .i64 x, .string ⟨#[]⟩], .agg #[.int .i64 1, .int .i64 0, .string ⟨#[]⟩]] w fun e w' => e = .returned (.tuple #[.agg #[.int .i64 0, .int .i64 0, .string ⟨#[]⟩], .bool false]) ∧ Below w.heap.size w w' := by
  refine (of_any kind 0 110 (Pl.num x) (Pl.num 0) w none (by omega) rfl rfl rfl (validV_num x (by omega) (by omega)) (validV_num 0 (by omega) (by omega)) (Pl.of_wf kind 110 (by omega) (by decide)) (Pl.of_ty_num kind (by omega)) (Pl.names_num kind 110 (by omega)) (Lib.hid ?_)).mono fun e w' h => h
  rw [Pl.of_val]; exact (Pl.app_zero kind x hk).symm
/-- A quotient, or a remainder: what it is, and whether it is one. -/
theorem of_div (kind x y vk vn : Int) (g : Bool) (w : World) (hk : kind = 11 ∨ kind = 12) (hx : -1000000 ≤ x ∧ x ≤ 1000000) (hy : -1000000 ≤ y ∧ y ≤ 1000000)
    (HV : Hid ((y = 0 ∧ vk = 0 ∧ vn = 0 ∧ g = false) ∨ (y ≠ 0 ∧ vk = 1 ∧ vn = (if kind = 11 then Pl.flq x y else Pl.flr x y) ∧ g = true))) :
    Calls Tryz.prog 35 #[.int .i64 kind, .agg #[.int .i64 1, .int .i64 x, .string ⟨#[]⟩], .agg #[.int .i64 1, .int .i64 y, .string ⟨#[]⟩]] w fun e w' => e = .returned (.tuple #[.agg #[.int .i64 vk, .int .i64 vn, .string ⟨#[]⟩], .bool g]) ∧ Below w.heap.size w w' := by
  rcases HV.out with ⟨rfl, rfl, rfl, rfl⟩ | ⟨h0, rfl, rfl, rfl⟩
  · exact of_none kind x w hk hx
  · refine of_num kind x y _ w (by omega) hx hy (Lib.hid ?_)
    rcases hk with rfl | rfl
    · rw [if_pos rfl]; exact Pl.app_quot x y hx h0
    · rw [if_neg (by decide)]; exact Pl.app_rest x y hy h0
theorem of_txt (kind : Int) (s t : ByteArray) (v : Tm) (w : World) (hk : 8 ≤ kind ∧ kind ≤ 16) (hty : Pl.ty (fmOf kind 115) ≠ 0) (hs : s.size ≤ 40) (ht : t.size ≤ 40) (HZ : Hid (Pl.app kind (Pl.txt s) (Pl.txt t) = some v)) :
    Calls Tryz.prog 35 #[.int .i64 kind, .agg #[.int .i64 3, .int .i64 0, .string s], .agg #[.int .i64 3, .int .i64 0, .string t]] w fun e w' => e = .returned (.tuple #[v.agg, .bool true]) ∧ Below w.heap.size w w' := by
  refine (of_any kind 2 115 (Pl.txt s) (Pl.txt t) w (some v) (by omega) rfl rfl rfl (Pl.validV_txt s (by omega)) (Pl.validV_txt t (by omega)) (Pl.of_wf kind 115 hk (by decide)) hty (Pl.names_num kind 115 (by omega)) (Lib.hid ?_)).mono fun e w' h => h
  rw [Pl.of_val]; exact HZ.out.symm
theorem of_less (s t : ByteArray) (z : Int) (w : World) (hs : s.size ≤ 40) (ht : t.size ≤ 40) (HZ : Hid (z = Pl.lessS s t)) :
    Calls Tryz.prog 35 #[.int .i64 14, .agg #[.int .i64 3, .int .i64 0, .string s], .agg #[.int .i64 3, .int .i64 0, .string t]] w fun e w' => e = .returned (.tuple #[.agg #[.int .i64 2, .int .i64 z, .string ⟨#[]⟩], .bool true]) ∧ Below w.heap.size w w' := by
  rw [HZ.out]
  exact of_txt 14 s t _ w (by omega) (Pl.of_ty_txt 14 (by omega)) hs ht (Lib.hid (Pl.app_less s t))
theorem of_same (s t : ByteArray) (z : Int) (w : World) (hs : s.size ≤ 40) (ht : t.size ≤ 40) (HZ : Hid (z = Pl.sameS s t)) :
    Calls Tryz.prog 35 #[.int .i64 13, .agg #[.int .i64 3, .int .i64 0, .string s], .agg #[.int .i64 3, .int .i64 0, .string t]] w fun e w' => e = .returned (.tuple #[.agg #[.int .i64 2, .int .i64 z, .string ⟨#[]⟩], .bool true]) ∧ Below w.heap.size w w' := by
  rw [HZ.out]
  exact of_txt 13 s t _ w (by omega) (Pl.of_ty_txt 13 (by omega)) hs ht (Lib.hid (Pl.app_same s t))
theorem of_cat (s t : ByteArray) (w : World) (hs : s.size ≤ 40) (ht : t.size ≤ 40) :
    Calls Tryz.prog 35 #[.int .i64 8, .agg #[.int .i64 3, .int .i64 0, .string s], .agg #[.int .i64 3, .int .i64 0, .string t]] w fun e w' => e = .returned (.tuple #[.agg #[.int .i64 3, .int .i64 0, .string (s ++ t)], .bool true]) ∧ Below w.heap.size w w' :=
  of_txt 8 s t _ w (by omega) Pl.of_ty_txt8 hs ht (Lib.hid (Pl.app_cat s t hs ht))
end Go.Proofs.YtchoelgkcnnnkaaGreatDoor
