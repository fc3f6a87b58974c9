/- WALKS of small functions of package formula: how many operands a kind has; which runes are plain. · WALKS of small functions: valid values, whole numbers picked, quotients and products, values made of numbers and truths. -/
import Derived.Test.YtchoelgkcnnnkaaGreatDoorProg
import Derived.Test.YtchoelgkcnnnkaaGreatDoorPlB
import Derived.Lib.Hide
import Derived.WalkSpells
import Derived.WalkLawsBesides
import Derived.Shelf.GgClosure.Gives
namespace Go.Proofs.YtchoelgkcnnnkaaGreatDoor
open Go.RowKit

theorem ret_int {k : IntKind} {a b : Int} (h : a = b) : Ending.returned (.int k a) = .returned (.int k b) := by rw [h]
theorem ret_bool {a b : Bool} (h : a = b) : Ending.returned (.bool a) = .returned (.bool b) := by rw [h]

set_option maxHeartbeats 400000 in
theorem operands_any (k : Int) (w : World) :
    Calls Tryz.prog 49 #[.int .i64 k] w fun e w' => e = .returned (.int .i64 (Pl.operandsOf k)) ∧ w = w' := by
  go_enter Tryz.func49, Tryz.ntmps49
  go_wp2
  all_goals (go_ret; refine ⟨ret_int ?_, rfl⟩; unfold Pl.operandsOf; (repeat' split) <;> omega)

set_option maxHeartbeats 400000 in
theorem isPlain_any (r : Nat) (w : World) :
    Calls Tryz.prog 125 #[.int .i32 (r : Int)] w fun e w' => e = .returned (.bool (Pl.plainR r)) ∧ w = w' := by
  go_enter Tryz.func125, Tryz.ntmps125
  go_wp2
  all_goals (go_ret; refine ⟨ret_bool ?_, rfl⟩; simp [Pl.plainR, *] <;> omega)

set_option maxHeartbeats 400000 in
/-- The function that isFormed hands to strings.ContainsFunc. -/
theorem isFormed1_pred (w : World) : PredAt Tryz.prog 124 #[] (fun r : Nat => .int .i32 (r : Int)) (fun r => !Pl.plainR r) w := by
  intro W r _
  unfold FnGives
  go_enter Tryz.func124, Tryz.ntmps124
  go_wp2_with (go_at_call 125; refine (isPlain_any _ _).mono ?_; rintro e w' ⟨rfl, rfl⟩)
  go_ret
  exact ⟨rfl, 0, rfl⟩

end Go.Proofs.YtchoelgkcnnnkaaGreatDoor
namespace Go.Proofs.YtchoelgkcnnnkaaGreatDoor
open Go.RowKit

theorem below1 (w : World) (o : Obj) : Below w.heap.size w (w.alloc o) := (Below.refl _ _).alloc (Nat.le_refl _) _

set_option maxHeartbeats 400000 in
theorem validValue_any (v : Tm) (w : World) :
    Calls Tryz.prog 30 #[v.agg] w fun e w' => e = .returned (.bool (Pl.validV v)) ∧ Below w.heap.size w w' := by
  obtain ⟨k, n, s⟩ := v
  unfold Tm.agg
  dsimp only
  by_cases h1 : k = 1
  · subst h1
    go_enter Tryz.func30, Tryz.ntmps30
    go_wp2
    all_goals (go_ret; refine ⟨ret_bool ?_, below1 _ _⟩; simp [Pl.validV, *] <;> omega)
  · by_cases h2 : k = 2
    · subst h2
      go_enter Tryz.func30, Tryz.ntmps30
      go_wp2
      all_goals (go_ret; refine ⟨ret_bool ?_, below1 _ _⟩)
      · have : n = 0 ∨ n = 1 := by omega
        simp [Pl.validV, this]
      · have : ¬ (n = 0 ∨ n = 1) := by omega
        simp [Pl.validV, this]
    · by_cases h3 : k = 3
      · subst h3
        go_enter Tryz.func30, Tryz.ntmps30
        go_wp2
        all_goals (go_ret; refine ⟨ret_bool ?_, below1 _ _⟩; simp [Pl.validV, *] <;> omega)
      · go_enter Tryz.func30, Tryz.ntmps30
        go_wp2
        all_goals (go_ret; refine ⟨ret_bool ?_, below1 _ _⟩; simp [Pl.validV, *])

set_option maxHeartbeats 400000 in
theorem pick_any (c n : Int) (w : World) (h0 : -9223372036854775808 ≤ c) (h1 : c ≤ 9223372036854775807) (h2 : 1 ≤ n) (h3 : n ≤ 9223372036854775807) :
    Calls Tryz.prog 12 #[.int .i64 c, .int .i64 n] w fun e w' => e = .returned (.int .i64 (Pl.pickOf c n)) ∧ w = w' := by
  go_enter Tryz.func12, Tryz.ntmps12
  go_wp2
  all_goals (go_ret; refine ⟨ret_int ?_, rfl⟩; unfold Pl.pickOf)
  · rw [if_pos (by omega), ← Int.neg_tmod, Int.tmod_eq_emod_of_nonneg (by omega)]
  · rw [if_neg (by omega)]

set_option maxHeartbeats 400000 in
theorem number_any (n : Int) (w : World) :
    Calls Tryz.prog 34 #[.int .i64 n] w fun e w' => e = .returned (Tm.agg ⟨1, n, ⟨#[]⟩⟩) ∧ Below w.heap.size w w' := by
  go_enter Tryz.func34, Tryz.ntmps34
  go_wp2
  exact bodyPost_ret (v := Tm.agg ⟨1, n, ⟨#[]⟩⟩) (by simp [results, Tryz.results34, go_sem, Tm.agg]) rfl ⟨rfl, below1 _ _⟩

theorem ret_int2 {k l : IntKind} {a b c d : Int} (h : a = b) (h2 : c = d) : Ending.returned (.tuple #[.int k a, .int l c]) = .returned (.tuple #[.int k b, .int l d]) := by rw [h, h2]

set_option maxHeartbeats 400000 in
theorem floor_any (a b : Int) (w : World) (h0 : -4000000000000000000 ≤ a) (h1 : a ≤ 4000000000000000000) (h2 : b ≠ 0) (h3 : -4000000000000000000 ≤ b) (h4 : b ≤ 4000000000000000000) :
    Calls Tryz.prog 110 #[.int .i64 a, .int .i64 b] w fun e w' => e = .returned (.tuple #[.int .i64 (Pl.flq a b), .int .i64 (Pl.flr a b)]) ∧ ∃ q, w' = w.drewN q := by
  have q1 := Pl.tdiv_abs a b
  have q2 := Pl.tmod_abs a b h2
  have q3 : -4000000000000000000 ≤ a.tdiv b ∧ a.tdiv b ≤ 4000000000000000000 := by omega
  obtain ⟨q4, q5⟩ := q3
  have q6 : -4000000000000000000 ≤ a.tmod b ∧ a.tmod b ≤ 4000000000000000000 := by omega
  obtain ⟨q7, q8⟩ := q6
  have hs := Pl.tmod_sign a b
  clear q1 q2
  have HS := Lib.hid hs
  clear hs
  go_enter Tryz.func110, Tryz.ntmps110
  go_wp2
  go_quiet (fail)
  go_wp2
  all_goals (go_ret2; refine ⟨ret_int2 ?_ ?_, _, rfl⟩)
  all_goals try rw [Pl.flr_eq]
  all_goals try unfold Pl.flq
  · rename_i nq h; simp [h]
  · rename_i nq h; simp [h]
  · rename_i nq h h'
    rw [HS.out h] at h'
    rw [if_pos ⟨h, by simpa using h'.2⟩]
  · rename_i nq h h'
    rw [HS.out h] at h'
    rw [if_pos ⟨h, by simpa using h'.2⟩]
  · rename_i nq h h'
    rw [HS.out h] at h'
    rw [if_neg (fun hh => by have := hh.2; simp [h] at h'; simp [h'] at this)]
  · rename_i nq h h'
    rw [HS.out h] at h'
    rw [if_neg (fun hh => by have := hh.2; simp [h] at h'; simp [h'] at this)]

set_option maxHeartbeats 400000 in
theorem floor_zero (a : Int) (w : World) :
    Calls Tryz.prog 110 #[.int .i64 a, .int .i64 0] w fun e w' => e = .panicked [{ v := .iface 103 (.agg #[]), recovered := false }] ∧ w = w' := by
  go_enter Tryz.func110, Tryz.ntmps110
  go_wp2
  exact ⟨rfl, rfl, rfl⟩

set_option maxHeartbeats 400000 in
theorem pickR_any (c n : Int) (w : World) (h0 : -9223372036854775808 ≤ c) (h1 : c ≤ 9223372036854775807) (h2 : 1 ≤ n) (h3 : n ≤ 9223372036854775807) :
    Calls Tryz.prog 39 #[.int .i64 c, .int .i64 n] w fun e w' => e = .returned (.int .i64 (Pl.pickOf c n)) ∧ w = w' := by
  go_enter Tryz.func39, Tryz.ntmps39
  go_wp2
  all_goals (go_ret; refine ⟨ret_int ?_, rfl⟩; unfold Pl.pickOf)
  · rw [if_pos (by omega), ← Int.neg_tmod, Int.tmod_eq_emod_of_nonneg (by omega)]
  · rw [if_neg (by omega)]

def truthV (b : Bool) : Tm := if b then ⟨2, 1, ⟨#[]⟩⟩ else ⟨2, 0, ⟨#[]⟩⟩
def numV (n : Int) : Tm := ⟨1, n, ⟨#[]⟩⟩

theorem count_any (n : Int) (w : World) :
    Calls Tryz.prog 60 #[.int .i64 n] w fun e w' => e = .returned (numV n).agg ∧ Below w.heap.size w w' := by
  go_enter Tryz.func60, Tryz.ntmps60
  go_wp2
  exact bodyPost_ret (v := Tm.agg ⟨1, n, ⟨#[]⟩⟩) (by simp [results, Tryz.results60, go_sem, Tm.agg]) rfl ⟨rfl, below1 _ _⟩
theorem numberF_any (n : Int) (w : World) :
    Calls Tryz.prog 101 #[.int .i64 n] w fun e w' => e = .returned (numV n).agg ∧ Below w.heap.size w w' := by
  go_enter Tryz.func101, Tryz.ntmps101
  go_wp2
  exact bodyPost_ret (v := Tm.agg ⟨1, n, ⟨#[]⟩⟩) (by simp [results, Tryz.results101, go_sem, Tm.agg]) rfl ⟨rfl, below1 _ _⟩
theorem digit_any (n : Int) (w : World) :
    Calls Tryz.prog 36 #[.int .i64 n] w fun e w' => e = .returned (numV n).agg ∧ Below w.heap.size w w' := by
  go_enter Tryz.func36, Tryz.ntmps36
  go_wp2
  exact bodyPost_ret (v := Tm.agg ⟨1, n, ⟨#[]⟩⟩) (by simp [results, Tryz.results36, go_sem, Tm.agg]) rfl ⟨rfl, below1 _ _⟩
theorem nameT_any (s : ByteArray) (w : World) :
    Calls Tryz.prog 33 #[.string s] w fun e w' => e = .returned (Tm.agg ⟨4, 0, s⟩) ∧ Below w.heap.size w w' := by
  go_enter Tryz.func33, Tryz.ntmps33
  go_wp2
  exact bodyPost_ret (v := Tm.agg ⟨4, 0, s⟩) (by simp [results, Tryz.results33, go_sem, Tm.agg]) rfl ⟨rfl, below1 _ _⟩
theorem truthR_any (b : Bool) (w : World) :
    Calls Tryz.prog 61 #[.bool b] w fun e w' => e = .returned (truthV b).agg ∧ Below w.heap.size w w' := by
  cases b
  all_goals
    go_enter Tryz.func61, Tryz.ntmps61
    go_wp2
    exact bodyPost_ret (v := (truthV _).agg) (by simp [results, Tryz.results61, go_sem, Tm.agg, truthV]) rfl ⟨rfl, below1 _ _⟩
theorem truthF_any (b : Bool) (w : World) :
    Calls Tryz.prog 103 #[.bool b] w fun e w' => e = .returned (truthV b).agg ∧ Below w.heap.size w w' := by
  cases b
  all_goals
    go_enter Tryz.func103, Tryz.ntmps103
    go_wp2
    exact bodyPost_ret (v := (truthV _).agg) (by simp [results, Tryz.results103, go_sem, Tm.agg, truthV]) rfl ⟨rfl, below1 _ _⟩
theorem when_any (b : Bool) (t : Int) (w : World) :
    Calls Tryz.prog 74 #[.bool b, .int .i64 t] w fun e w' => e = .returned (.int .i64 (if b then t else 0)) ∧ w = w' := by
  cases b
  all_goals
    go_enter Tryz.func74, Tryz.ntmps74
    go_wp2
    go_ret
    exact ⟨rfl, rfl⟩
theorem operandsR_any (k : Int) (w : World) :
    Calls Tryz.prog 32 #[.int .i64 k] w fun e w' => e = .returned (.int .i64 (Pl.operandsOf k)) ∧ w = w' := by
  by_cases h : k = 17
  · subst h
    go_enter Tryz.func32, Tryz.ntmps32
    go_wp2
    go_ret
    exact ⟨rfl, rfl⟩
  · have h' : (k == 17) = false := by simpa using h
    go_enter Tryz.func32, Tryz.ntmps32
    go_wp2
    all_goals (go_ret; refine ⟨ret_int ?_, rfl⟩; unfold Pl.operandsOf; (repeat' split) <;> omega)
theorem divided_any (a b : Int) (w : World) (h0 : -4000000000000000000 ≤ a) (h1 : a ≤ 4000000000000000000) (h2 : b ≠ 0) (h3 : -4000000000000000000 ≤ b) (h4 : b ≤ 4000000000000000000) :
    Calls Tryz.prog 140 #[.int .i64 a, .int .i64 b] w fun e w' => e = .returned (.int .i64 (Pl.flq a b)) ∧ w = w' := by
  have q1 := Pl.tdiv_abs a b
  have q2 := Pl.tmod_abs a b h2
  have q3 : -4000000000000000000 ≤ a.tdiv b ∧ a.tdiv b ≤ 4000000000000000000 := by omega
  obtain ⟨q4, q5⟩ := q3
  have q6 : -4000000000000000000 ≤ a.tmod b ∧ a.tmod b ≤ 4000000000000000000 := by omega
  obtain ⟨q7, q8⟩ := q6
  clear q1 q2
  go_enter Tryz.func140, Tryz.ntmps140
  go_wp2
  all_goals (go_ret; refine ⟨ret_int ?_, rfl⟩; unfold Pl.flq)
  · rename_i h; simp [h]
  · rename_i h h'
    rw [if_pos ⟨h, by simpa using h'.2⟩]
  · rename_i h h'
    rw [if_neg (fun hh => by have := hh.2; simp [h] at h'; simp [h'] at this)]
theorem validValueR_any (v : Tm) (w : World) :
    Calls Tryz.prog 31 #[v.agg] w fun e w' => e = .returned (.bool (Pl.validV v)) ∧ Below w.heap.size w w' := by
  obtain ⟨k, n, s⟩ := v
  unfold Tm.agg
  dsimp only
  by_cases h1 : k = 1
  · subst h1
    go_enter Tryz.func31, Tryz.ntmps31
    go_wp2
    all_goals (go_ret; refine ⟨ret_bool ?_, below1 _ _⟩; simp [Pl.validV, *] <;> omega)
  · by_cases h2 : k = 2
    · subst h2
      go_enter Tryz.func31, Tryz.ntmps31
      go_wp2
      all_goals (go_ret; refine ⟨ret_bool ?_, below1 _ _⟩; simp [Pl.validV, *])
    · by_cases h3 : k = 3
      · subst h3
        go_enter Tryz.func31, Tryz.ntmps31
        go_wp2
        all_goals (go_ret; refine ⟨ret_bool ?_, below1 _ _⟩; simp [Pl.validV, *] <;> omega)
      · go_enter Tryz.func31, Tryz.ntmps31
        go_wp2
        all_goals (go_ret; refine ⟨ret_bool ?_, below1 _ _⟩; simp [Pl.validV, *])

def noneP : List PanicEntry := [{ v := .iface 103 (.agg #[]), recovered := false }]
set_option maxHeartbeats 800000 in
theorem times_any (a b : Int) (w : World) (h1 : -1000000000000 ≤ a) (h2 : a ≤ 1000000000000) (h3 : -1000000000000 ≤ b) (h4 : b ≤ 1000000000000) :
    Calls Tryz.prog 108 #[.int .i64 a, .int .i64 b] w fun e w' => e = (if (a * b).natAbs ≤ 1000000000000 ∨ a * b = -9223372036854775808 then .returned (.int .i64 (a * b)) else .panicked noneP) ∧ w = w' := by
  by_cases ha : a = 0
  · subst ha
    go_enter Tryz.func108, Tryz.ntmps108
    go_wp2
    go_ret
    simp
  · have hd := Pl.mul_tdiv_left a b ha
    have hb := Pl.wrap_back a b ha (by omega) (by omega)
    by_cases hm : a * b = -9223372036854775808
    · rw [if_pos (.inr hm)]
      obtain ⟨p, hp⟩ : ∃ p, a * b = p := ⟨_, rfl⟩
      rw [hp] at hm hd ⊢
      have g1 : -9223372036854775808 ≤ p := by omega
      have g2 : p ≤ 0 := by omega
      have g3 : wrap64 (-p) = p := by unfold wrap64; omega
      have g4 : max p p ≤ 1000000000000 := by omega
      have ha' : (a == 0) = false := by simpa using ha
      clear hm hb
      go_enter Tryz.func108, Tryz.ntmps108
      go_wp2
      go_ret
      exact ⟨rfl, rfl⟩
    by_cases hs : (a * b).natAbs ≤ 1000000000000
    · rw [if_pos (.inl hs)]
      have g1 : -1000000000000 ≤ a * b := by omega
      have g2 : a * b ≤ 1000000000000 := by omega
      have g3 : max (a * b) (-(a * b)) ≤ 1000000000000 := by omega
      have ha' : (a == 0) = false := by simpa using ha
      clear hs hb hm
      go_enter Tryz.func108, Tryz.ntmps108
      go_wp2
      go_ret
      exact ⟨rfl, rfl⟩
    · rw [if_neg (fun h => h.elim hs hm)]
      have HB := Lib.hid hb
      have HS := Lib.hid hs
      have HM := Lib.hid hm
      clear hb hs hd hm
      go_enter Tryz.func108, Tryz.ntmps108
      go_wp2
      · rename_i h h'
        have e := HB.out h
        have := HS.out
        have hm := HM.out
        rw [e] at h'
        simp only [beq_iff_eq, ha, false_or] at h'
        have hw : -9223372036854775808 ≤ wrap64 (a * b) ∧ wrap64 (a * b) ≤ 9223372036854775807 := by unfold wrap64; omega
        rw [e] at hw
        generalize a * b = p at *
        have : wrap64 (-p) = -p := by unfold wrap64; omega
        omega
      · exact ⟨rfl, rfl, rfl⟩
      · exact ⟨rfl, rfl, rfl⟩
set_option maxHeartbeats 800000 in
theorem product_any (a b : Int) (w : World) (h0 : -4000000000000000000 ≤ a) (h1 : a ≤ 4000000000000000000) (h3 : -4000000000000000000 ≤ b) (h4 : b ≤ 4000000000000000000) :
    Calls Tryz.prog 139 #[.int .i64 a, .int .i64 b] w fun e w' => e = .returned (.int .i64 (Pl.prodR a b)) ∧ w = w' := by
  by_cases ha : a = 0
  · subst ha
    go_enter Tryz.func139, Tryz.ntmps139
    go_wp2
    go_ret
    simp [Pl.prodR]
  · by_cases hb : b = 0
    · subst hb
      go_enter Tryz.func139, Tryz.ntmps139
      go_wp2
      go_ret
      simp [Pl.prodR]
    · have g1 : 1 ≤ max b (-b) := by omega
      have g2 := Pl.tdiv_abs 1000000000000 (max b (-b))
      have g3 : -1000000000000 ≤ Int.tdiv 1000000000000 (max b (-b)) := by omega
      have g4 : Int.tdiv 1000000000000 (max b (-b)) ≤ 1000000000000 := by omega
      have g5 : ¬ max b (-b) = 0 := by omega
      have HT := Lib.hid (Pl.prodR_test a b hb)
      have ha' : (a == 0) = false := by simpa using ha
      have hb' : (b == 0) = false := by simpa using hb
      clear g2
      by_cases hs : (a * b).natAbs ≤ 1000000000000
      · have e : Pl.prodR a b = a * b := if_pos hs
        rw [e]
        have g6 : -1000000000000 ≤ a * b := by omega
        have g7 : a * b ≤ 1000000000000 := by omega
        have g8 := HT.out.2 hs
        clear hs e
        go_enter Tryz.func139, Tryz.ntmps139
        go_wp2
        go_ret
        exact ⟨rfl, rfl⟩
      · have e : Pl.prodR a b = 1000000000001 := if_neg hs
        rw [e]
        have g8 : Int.tdiv 1000000000000 (max b (-b)) < max a (-a) := by
          have := mt HT.out.1 hs
          omega
        clear hs e
        go_enter Tryz.func139, Tryz.ntmps139
        go_wp2
        go_ret
        exact ⟨rfl, rfl⟩
end Go.Proofs.YtchoelgkcnnnkaaGreatDoor
