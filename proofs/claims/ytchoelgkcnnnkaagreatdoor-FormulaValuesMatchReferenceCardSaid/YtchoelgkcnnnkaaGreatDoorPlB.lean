/- PLAIN DEFINITIONS of the formula language over lists of terms and bytes: which names, terms and lists of terms are valid; no program is in sight. · PLAIN DEFINITIONS, second part: valid values, whole numbers picked, quotients towards minus infinity. -/
import Derived.WalkKit
namespace Go.Proofs.YtchoelgkcnnnkaaGreatDoor

/-- A term (api.Term), and a value (api.Value): a kind, a number, a text. -/
structure Tm where
  k : Int
  n : Int
  s : ByteArray

theorem Tm.ext' {a b : Tm} (h1 : a.k = b.k) (h2 : a.n = b.n) (h3 : a.s = b.s) : a = b := by
  cases a; cases b; simp only at h1 h2 h3; subst h1; subst h2; subst h3; rfl

/-- The bytes of a text. -/
def Tm.l (t : Tm) : List UInt8 := t.s.data.toList

def Tm.agg (t : Tm) : Value := .agg #[.int .i64 t.k, .int .i64 t.n, .string t.s]
def Tm.vals (t : Tm) : List Value := [.int .i64 t.k, .int .i64 t.n, .string t.s]
def cellsOf (ts : List Tm) : List Value := ts.flatMap Tm.vals

def tm0 : Tm := ⟨0, 0, ⟨#[]⟩⟩

namespace Pl

def isDig (b : UInt8) : Bool := decide (48 ≤ (b.toNat : Int)) && decide ((b.toNat : Int) ≤ 57)
def isDig1 (b : UInt8) : Bool := decide (49 ≤ (b.toNat : Int)) && decide ((b.toNat : Int) ≤ 57)
def letterT (b : UInt8) : Int := if (b.toNat : Int) = 110 then 1 else if (b.toNat : Int) = 116 then 2 else if (b.toNat : Int) = 115 then 3 else 0
/-- The type of a name; 0 if it is none. -/
def typeOf : List UInt8 → Int
  | [] => 0
  | [c] => letterT c
  | [c, d] => if isDig1 d then letterT c else 0
  | [c, d, e] => if isDig1 d && isDig e then letterT c else 0
  | _ => 0
def operandsOf (k : Int) : Int := if k < 1 ∨ 17 < k then -1 else if k ≤ 4 then 0 else if k ≤ 7 then 1 else if k ≤ 16 then 2 else 3
def plainR (r : Nat) : Bool := decide (32 ≤ (r : Int)) && decide ((r : Int) ≤ 126) && ((r : Int) != 39)
def plainB (b : UInt8) : Bool := plainR b.toNat
/-- Are all bytes of a text plain? -/
def allPlain (s : ByteArray) : Bool := s.data.toList.all plainB
/-- Are the fields of a term right? -/
def formed (t : Tm) : Bool :=
  if t.k = 1 then decide (0 ≤ t.n) && decide (t.n ≤ 1000000000000) && t.s.toList.isEmpty
  else if t.k = 2 then decide (t.n = 0 ∨ t.n = 1) && t.s.toList.isEmpty
  else if t.k = 3 then decide (t.n = 0) && decide ((t.s.size : Int) ≤ 40) && allPlain t.s
  else if t.k = 4 then decide (t.n = 0) && decide (0 < typeOf t.s.data.toList)
  else decide (0 < operandsOf t.k) && decide (t.n = 0) && t.s.toList.isEmpty

theorem letterT_range (b : UInt8) : 0 ≤ letterT b ∧ letterT b ≤ 3 := by
  unfold letterT; (repeat' split) <;> simp
theorem typeOf_range (l : List UInt8) : 0 ≤ typeOf l ∧ typeOf l ≤ 3 := by
  unfold typeOf
  split
  · simp
  · exact letterT_range _
  · split
    · exact letterT_range _
    · simp
  · split
    · exact letterT_range _
    · simp
  · simp
theorem operandsOf_range (k : Int) : -1 ≤ operandsOf k ∧ operandsOf k ≤ 3 := by
  unfold operandsOf; (repeat' split) <;> simp
end Pl
end Go.Proofs.YtchoelgkcnnnkaaGreatDoor
namespace Go.Proofs.YtchoelgkcnnnkaaGreatDoor
open Go.RowKit
namespace Pl
def validV (v : Tm) : Bool :=
  if v.k = 1 then decide (-1000000000000 ≤ v.n) && decide (v.n ≤ 1000000000000) && v.s.toList.isEmpty
  else if v.k = 2 then decide (v.n = 0 ∨ v.n = 1) && v.s.toList.isEmpty
  else if v.k = 3 then decide (v.n = 0) && decide ((v.s.size : Int) ≤ 400)
  else false
def pickOf (c n : Int) : Int := (if c < 0 then -(c + 1) else c) % n
theorem pickOf_range (c n : Int) (h : 0 < n) : 0 ≤ pickOf c n ∧ pickOf c n < n := by
  unfold pickOf
  exact ⟨Int.emod_nonneg _ (by omega), Int.emod_lt_of_pos _ h⟩
/-- The quotient, rounded towards minus infinity. -/
def flq (a b : Int) : Int := if a.tmod b ≠ 0 ∧ (decide (a < 0) != decide (b < 0)) = true then a.tdiv b - 1 else a.tdiv b
def flr (a b : Int) : Int := a - b * flq a b
theorem tmod_sign (a b : Int) (h : a.tmod b ≠ 0) : decide (a.tmod b < 0) = decide (a < 0) := by
  have e := Int.mul_tdiv_add_tmod a b
  by_cases ha : a < 0
  · have : a.tmod b ≤ 0 := by
      have h1 := Int.neg_tmod a b
      have h2 := Int.tmod_nonneg (a := -a) b (by omega)
      omega
    simp only [ha, decide_true, decide_eq_true_eq]; omega
  · have := Int.tmod_nonneg (a := a) b (by omega)
    simp only [ha, decide_false, decide_eq_false_iff_not]; omega
theorem tmod_abs (a b : Int) (hb : b ≠ 0) : -(b.natAbs : Int) < a.tmod b ∧ a.tmod b < b.natAbs := by
  have h1 : (a.tmod b).natAbs = a.natAbs % b.natAbs := Int.natAbs_tmod a b
  have h2 := Nat.mod_lt a.natAbs (y := b.natAbs) (by omega)
  omega
theorem tdiv_abs (a b : Int) : (a.tdiv b).natAbs ≤ a.natAbs := by
  rw [Int.natAbs_tdiv]; exact Nat.div_le_self _ _
theorem flr_eq (a b : Int) : flr a b = if a.tmod b ≠ 0 ∧ (decide (a < 0) != decide (b < 0)) = true then a.tmod b + b else a.tmod b := by
  have e := Int.mul_tdiv_add_tmod a b
  unfold flr flq
  split
  · rw [Int.mul_sub]; omega
  · omega
theorem flr_range (a b : Int) (hb : b ≠ 0) : (0 < b → 0 ≤ flr a b ∧ flr a b < b) ∧ (b < 0 → flr a b ≤ 0 ∧ b < flr a b) := by
  have h1 := tmod_abs a b hb
  rw [flr_eq]
  by_cases h0 : a.tmod b = 0
  · simp [h0] <;> omega
  · have h2 := tmod_sign a b h0
    by_cases ha : a < 0 <;> by_cases hb' : b < 0 <;> simp [h0, ha, hb'] at h2 ⊢ <;> omega
/-- The product, if it is at most 1000000000000 in absolute value; otherwise a number that is not valid. -/
def prodR (a b : Int) : Int := if (a * b).natAbs ≤ 1000000000000 then a * b else 1000000000001
theorem le_div_iff (x y : Nat) (hy : 0 < y) : x ≤ 1000000000000 / y ↔ x * y ≤ 1000000000000 := Nat.le_div_iff_mul_le hy
/-- The test of the reference's product. -/
theorem prodR_test (a b : Int) (hb : b ≠ 0) : (max a (-a) ≤ Int.tdiv 1000000000000 (max b (-b))) ↔ (a * b).natAbs ≤ 1000000000000 := by
  have e1 : max a (-a) = (a.natAbs : Int) := by omega
  have e2 : max b (-b) = (b.natAbs : Int) := by omega
  rw [e1, e2, Int.natAbs_mul, ← le_div_iff _ _ (by omega)]
  rw [show (1000000000000 : Int) = ((1000000000000 : Nat) : Int) from rfl, ← Int.ofNat_tdiv]
  omega
theorem wrap_back (a b : Int) (ha : a ≠ 0) (h1 : a.natAbs ≤ 1000000000000) (h2 : b.natAbs ≤ 1000000000000) (h : wrap64 ((wrap64 (a * b)).tdiv a) = b) : wrap64 (a * b) = a * b := by
  have e := Int.mul_tdiv_add_tmod (wrap64 (a * b)) a
  have m := tmod_abs (wrap64 (a * b)) a ha
  have d := tdiv_abs (wrap64 (a * b)) a
  generalize hp : a * b = p at *
  have hw : -9223372036854775808 ≤ wrap64 p ∧ wrap64 p ≤ 9223372036854775807 := by unfold wrap64; omega
  have hk : ∃ k : Int, wrap64 p = p + 18446744073709551616 * k := ⟨-((p + 9223372036854775808) / 18446744073709551616), by unfold wrap64; omega⟩
  obtain ⟨k, hk⟩ := hk
  have hq : (wrap64 p).tdiv a = b ∨ ((wrap64 p).tdiv a = 9223372036854775808 ∧ b = -9223372036854775808) := by
    generalize (wrap64 p).tdiv a = q at *
    unfold wrap64 at h; omega
  rcases hq with hq | ⟨_, hq⟩
  · rw [hq, hp] at e
    omega
  · omega
theorem natAbs_ge (a b : Int) (ha : a ≠ 0) : b.natAbs ≤ (a * b).natAbs := by
  rw [Int.natAbs_mul]
  calc b.natAbs = 1 * b.natAbs := (Nat.one_mul _).symm
    _ ≤ a.natAbs * b.natAbs := Nat.mul_le_mul_right _ (by omega)
theorem mul_tdiv_left (a b : Int) (ha : a ≠ 0) : (a * b).tdiv a = b := by
  rw [Int.mul_comm]; exact Int.mul_tdiv_cancel _ ha
end Pl
end Go.Proofs.YtchoelgkcnnnkaaGreatDoor
