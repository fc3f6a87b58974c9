/- WALKS of the reference: the type of a name, plain texts, the fields of a term. · WALKS of the reference: plain texts, the fields of a term, whole formulas, Valid. · WALKS of the reference: whole formulas, Valid. -/
import Derived.Test.YtchoelgkcnnnkaaGreatDoorMem
import Derived.Test.YtchoelgkcnnnkaaGreatDoorTypeB
set_option linter.all false
namespace Go.Proofs.YtchoelgkcnnnkaaGreatDoor
open Go.RowKit
set_option maxHeartbeats 800000 in
theorem typeOfR_long (s : ByteArray) (w : World) (h : (3 : Int) < s.size) (hs : s.size ≤ 9223372036854775807) :
    Calls Tryz.prog 26 #[.string s] w fun e w' => e = .returned (.int .i64 0) ∧ w = w' := by
  have h0 : ((s.size : Int) == 0) = false := by rw [beq_eq_false_iff_ne]; omega
  go_enter Tryz.func26, Tryz.ntmps26
  go_wp2
  go_ret
  exact ⟨rfl, rfl⟩
set_option maxHeartbeats 800000 in
theorem typeOfR_0 (w : World) :
    Calls Tryz.prog 26 #[.string ⟨#[]⟩] w fun e w' => e = .returned (.int .i64 0) ∧ w = w' := by
  go_enter Tryz.func26, Tryz.ntmps26
  go_wp2
  go_ret
  exact ⟨rfl, rfl⟩
set_option maxHeartbeats 800000 in
theorem typeOfR_1 (c : UInt8) (r : Int) (w : World) (HR : Hid (r = Pl.typeOf [c])) :
    Calls Tryz.prog 26 #[.string ⟨#[c]⟩] w fun e w' => e = .returned (.int .i64 r) ∧ w = w' := by
  have e0 : (⟨#[c]⟩ : ByteArray)[0]'(by show 0 < 1; omega) = c := rfl
  go_enter Tryz.func26, Tryz.ntmps26
  go_wp2
  refine wp_loop_rounds 1 ?_
  rw [rounds_succ]
  go_wp2
  all_goals (go_ret; refine ⟨ret_int ?_, rfl⟩; rw [HR.out]; simp_all [Pl.typeOf, Pl.letterT] <;> omega)
set_option maxHeartbeats 1600000 in
theorem typeOfR_2 (c d : UInt8) (r : Int) (w : World) (HR : Hid (r = Pl.typeOf [c, d])) :
    Calls Tryz.prog 26 #[.string ⟨#[c, d]⟩] w fun e w' => e = .returned (.int .i64 r) ∧ w = w' := by
  have e0 : (⟨#[c, d]⟩ : ByteArray)[0]'(by show 0 < 2; omega) = c := rfl
  have e1 : (⟨#[c, d]⟩ : ByteArray)[1]'(by show 1 < 2; omega) = d := rfl
  by_cases hd1 : (d.toNat : Int) < 48
  · have hd3 : ((d.toNat : Int) == 48) = false := by rw [beq_eq_false_iff_ne]; omega
    go_enter Tryz.func26, Tryz.ntmps26
    go_wp2
    refine wp_loop_rounds 1 ?_
    rw [rounds_succ]
    go_wp2
    all_goals (go_ret; refine ⟨ret_int ?_, rfl⟩; rw [HR.out]; simp_all [Pl.typeOf, Pl.letterT, Pl.isDig1] <;> omega)
  by_cases hd2 : (57 : Int) < d.toNat
  · have hd3 : ((d.toNat : Int) == 48) = false := by rw [beq_eq_false_iff_ne]; omega
    go_enter Tryz.func26, Tryz.ntmps26
    go_wp2
    refine wp_loop_rounds 1 ?_
    rw [rounds_succ]
    go_wp2
    all_goals (go_ret; refine ⟨ret_int ?_, rfl⟩; rw [HR.out]; simp_all [Pl.typeOf, Pl.letterT, Pl.isDig1] <;> omega)
  by_cases h3 : (d.toNat : Int) = 48
  · have h3' : ((d.toNat : Int) == 48) = true := by simpa using h3
    clear h3
    go_enter Tryz.func26, Tryz.ntmps26
    go_wp2
    refine wp_loop_rounds 1 ?_
    rw [rounds_succ]
    go_wp2
    all_goals (go_ret; refine ⟨ret_int ?_, rfl⟩; rw [HR.out]; simp_all [Pl.typeOf, Pl.letterT, Pl.isDig1] <;> omega)
  have h3' : ((d.toNat : Int) == 48) = false := by simpa using h3
  clear h3
  go_enter Tryz.func26, Tryz.ntmps26
  go_wp2
  refine wp_loop_rounds 2 ?_
  rw [rounds_succ]
  go_wp2
  rw [rounds_succ]
  go_wp2
  all_goals (go_ret; refine ⟨ret_int ?_, rfl⟩; rw [HR.out]; simp_all [Pl.typeOf, Pl.letterT, Pl.isDig1] <;> omega)
set_option maxHeartbeats 3200000 in
theorem typeOfR_3 (c d f : UInt8) (r : Int) (w : World) (HR : Hid (r = Pl.typeOf [c, d, f])) :
    Calls Tryz.prog 26 #[.string ⟨#[c, d, f]⟩] w fun e w' => e = .returned (.int .i64 r) ∧ w = w' := by
  have e0 : (⟨#[c, d, f]⟩ : ByteArray)[0]'(by show 0 < 3; omega) = c := rfl
  have e1 : (⟨#[c, d, f]⟩ : ByteArray)[1]'(by show 1 < 3; omega) = d := rfl
  have e2 : (⟨#[c, d, f]⟩ : ByteArray)[2]'(by show 2 < 3; omega) = f := rfl
  by_cases hd1 : (d.toNat : Int) < 48
  · have hd3 : ((d.toNat : Int) == 48) = false := by rw [beq_eq_false_iff_ne]; omega
    go_enter Tryz.func26, Tryz.ntmps26
    go_wp2
    refine wp_loop_rounds 1 ?_
    rw [rounds_succ]
    go_wp2
    all_goals (go_ret; refine ⟨ret_int ?_, rfl⟩; rw [HR.out]; simp_all [Pl.typeOf, Pl.letterT, Pl.isDig, Pl.isDig1] <;> omega)
  by_cases hd2 : (57 : Int) < d.toNat
  · have hd3 : ((d.toNat : Int) == 48) = false := by rw [beq_eq_false_iff_ne]; omega
    go_enter Tryz.func26, Tryz.ntmps26
    go_wp2
    refine wp_loop_rounds 1 ?_
    rw [rounds_succ]
    go_wp2
    all_goals (go_ret; refine ⟨ret_int ?_, rfl⟩; rw [HR.out]; simp_all [Pl.typeOf, Pl.letterT, Pl.isDig, Pl.isDig1] <;> omega)
  by_cases h3 : (d.toNat : Int) = 48
  · have h3' : ((d.toNat : Int) == 48) = true := by simpa using h3
    clear h3
    go_enter Tryz.func26, Tryz.ntmps26
    go_wp2
    refine wp_loop_rounds 1 ?_
    rw [rounds_succ]
    go_wp2
    all_goals (go_ret; refine ⟨ret_int ?_, rfl⟩; rw [HR.out]; simp_all [Pl.typeOf, Pl.letterT, Pl.isDig, Pl.isDig1] <;> omega)
  have h3' : ((d.toNat : Int) == 48) = false := by simpa using h3
  clear h3
  by_cases hf1 : (f.toNat : Int) < 48
  · have hf3 : ((f.toNat : Int) == 48) = false := by rw [beq_eq_false_iff_ne]; omega
    go_enter Tryz.func26, Tryz.ntmps26
    go_wp2
    refine wp_loop_rounds 2 ?_
    rw [rounds_succ]
    go_wp2
    rw [rounds_succ]
    go_wp2
    all_goals (go_ret; refine ⟨ret_int ?_, rfl⟩; rw [HR.out]; simp_all [Pl.typeOf, Pl.letterT, Pl.isDig, Pl.isDig1] <;> omega)
  by_cases hf2 : (57 : Int) < f.toNat
  · have hf3 : ((f.toNat : Int) == 48) = false := by rw [beq_eq_false_iff_ne]; omega
    go_enter Tryz.func26, Tryz.ntmps26
    go_wp2
    refine wp_loop_rounds 2 ?_
    rw [rounds_succ]
    go_wp2
    rw [rounds_succ]
    go_wp2
    all_goals (go_ret; refine ⟨ret_int ?_, rfl⟩; rw [HR.out]; simp_all [Pl.typeOf, Pl.letterT, Pl.isDig, Pl.isDig1] <;> omega)
  go_enter Tryz.func26, Tryz.ntmps26
  go_wp2
  refine wp_loop_rounds 3 ?_
  rw [rounds_succ]
  go_wp2
  rw [rounds_succ]
  go_wp2
  rw [rounds_succ]
  go_wp2
  all_goals (go_ret; refine ⟨ret_int ?_, rfl⟩; rw [HR.out]; simp_all [Pl.typeOf, Pl.letterT, Pl.isDig, Pl.isDig1] <;> omega)

theorem typeOfR_any (s : ByteArray) (w : World) (hs : s.size ≤ 9223372036854775807) :
    Calls Tryz.prog 26 #[.string s] w fun e w' => e = .returned (.int .i64 (Pl.typeOf s.data.toList)) ∧ w = w' := by
  obtain ⟨⟨l⟩⟩ := s
  match l with
  | [] => exact typeOfR_0 w
  | [c] => exact typeOfR_1 c _ w rfl
  | [c, d] => exact typeOfR_2 c d _ w rfl
  | [c, d, f] => exact typeOfR_3 c d f _ w rfl
  | c :: d :: f :: g :: t => exact typeOfR_long _ w (by show (3 : Int) < ((t.length + 4 : Nat) : Int); omega) hs
end Go.Proofs.YtchoelgkcnnnkaaGreatDoor
namespace Go.Proofs.YtchoelgkcnnnkaaGreatDoor
open Go.RowKit
namespace Pl
theorem plainB_not (c : UInt8) : ((c.toNat : Int) < 32 ∨ (126 : Int) < c.toNat ∨ (c.toNat : Int) = 39) ↔ plainB c = false := by
  unfold plainB plainR
  constructor
  · rintro (h | h | h)
    · simp; omega
    · simp; omega
    · simp [h]
  · intro h
    simp at h
    omega
theorem allPlain_get {s : ByteArray} (h : allPlain s = true) (i : Nat) (hi : i < s.size) : plainB s[i] = true := by
  unfold allPlain at h
  have := List.all_eq_true.1 h s[i] (by
    rw [show s[i] = s.data.toList[i]'(by simpa using hi) from rfl]
    exact List.getElem_mem _)
  exact this
end Pl
set_option maxHeartbeats 800000 in
theorem plain_any (s : ByteArray) (r : Bool) (w : World) (hs : s.size ≤ 9223372036854775807) (HR : Hid (r = (decide ((s.size : Int) ≤ 40) && Pl.allPlain s))) :
    Calls Tryz.prog 126 #[.string s] w fun e w' => e = .returned (.bool r) ∧ w = w' := by
  go_enter Tryz.func126, Tryz.ntmps126
  go_wp2
  go_loop [3] (fun i => ∃ k : Nat, k ≤ s.size ∧ i = .int .i64 k ∧ ∀ j (hj : j < k) (h : j < s.size), Pl.plainB s[j] = true) (fun i => s.size - (intOf i).toNat)
  case atStart => exact ⟨0, Nat.zero_le _, rfl, fun j hj => by omega⟩
  case round =>
    obtain ⟨k, hk, rfl, hpl⟩ := hrel
    have HPL := Lib.hid hpl
    clear hpl
    by_cases hlt : k < s.size
    · have hq := Pl.plainB_not s[k]
      by_cases hp : Pl.plainB s[k] = true
      · have h1 : ¬ ((s[k].toNat : Int) < 32) := fun h => by have := hq.1 (.inl h); rw [hp] at this; cases this
        have h2 : ¬ ((126 : Int) < s[k].toNat) := fun h => by have := hq.1 (.inr (.inl h)); rw [hp] at this; cases this
        have h3 : ((s[k].toNat : Int) == 39) = false := by
          rw [beq_eq_false_iff_ne]; intro h; have := hq.1 (.inr (.inr h)); rw [hp] at this; cases this
        have HP := Lib.hid hp
        clear hp hq
        go_wp2
        go_round
        case rel => exact ⟨k + 1, by omega, by go_num, fun j hj h => by
          by_cases e : j = k
          · subst e; exact HP.out
          · exact HPL.out j (by omega) h⟩
        case measure => simp [intOf]; omega
      · have hp' : Pl.plainB s[k] = false := by simpa using hp
        have h4 := hq.2 hp'
        have HF : Hid (Pl.allPlain s = false) := Lib.hid (by
          cases e : Pl.allPlain s with
          | false => rfl
          | true => rw [Pl.allPlain_get e k hlt] at hp'; cases hp')
        clear hp hp' hq
        rcases h4 with h4 | h4 | h4
        · go_wp2
          go_ret
          exact ⟨ret_bool (by rw [HR.out, HF.out]; simp), rfl⟩
        · have h5 : ¬ ((s[k].toNat : Int) < 32) := by omega
          go_wp2
          go_ret
          exact ⟨ret_bool (by rw [HR.out, HF.out]; simp), rfl⟩
        · have h5 : ¬ ((s[k].toNat : Int) < 32) := by omega
          have h6 : ¬ ((126 : Int) < s[k].toNat) := by omega
          have h7 : ((s[k].toNat : Int) == 39) = true := by simpa using h4
          go_wp2
          go_ret
          exact ⟨ret_bool (by rw [HR.out, HF.out]; simp), rfl⟩
    · obtain rfl : k = s.size := by omega
      have HT : Hid (Pl.allPlain s = true) := Lib.hid (by
        unfold Pl.allPlain
        rw [List.all_eq_true]
        intro c hc
        obtain ⟨j, hj, rfl⟩ := List.getElem_of_mem hc
        exact HPL.out j (by simpa using hj) (by simpa using hj))
      go_wp2
      go_ret
      exact ⟨ret_bool (by rw [HR.out, HT.out]; simp), rfl⟩
set_option maxHeartbeats 1600000 in
theorem formedR_any (t : Tm) (r : Bool) (w : World) (hs : t.s.size ≤ 9223372036854775807) (HR : Hid (r = Pl.formed t)) :
    Calls Tryz.prog 77 #[t.agg] w fun e w' => e = .returned (.bool r) ∧ Below w.heap.size w w' := by
  obtain ⟨k, n, s⟩ := t
  unfold Tm.agg
  dsimp only at hs ⊢
  by_cases h1 : k = 1
  · subst h1
    go_enter Tryz.func77, Tryz.ntmps77
    go_wp2
    all_goals (go_ret; refine ⟨ret_bool ?_, below1 _ _⟩; rw [HR.out]; simp [Pl.formed, *] <;> omega)
  · by_cases h2 : k = 2
    · subst h2
      go_enter Tryz.func77, Tryz.ntmps77
      go_wp2
      all_goals (go_ret; refine ⟨ret_bool ?_, below1 _ _⟩; rw [HR.out]; simp [Pl.formed, *] <;> omega)
    · by_cases h3 : k = 3
      · subst h3
        obtain ⟨q, hq⟩ : ∃ q, q = (decide ((s.size : Int) ≤ 40) && Pl.allPlain s) := ⟨_, rfl⟩
        have HQ := Lib.hid hq
        clear hq
        go_enter Tryz.func77, Tryz.ntmps77
        go_wp2_with (go_at_call 126; refine (plain_any s q _ hs HQ).mono ?_; rintro e w' ⟨rfl, rfl⟩)
        all_goals (go_ret; refine ⟨ret_bool ?_, below1 _ _⟩; rw [HR.out])
        all_goals (have := HQ.out; simp [Pl.formed, *] <;> omega)
      · by_cases h4 : k = 4
        · subst h4
          go_enter Tryz.func77, Tryz.ntmps77
          go_wp2_with (go_at_call 26; refine (typeOfR_any _ _ hs).mono ?_; rintro e w' ⟨rfl, rfl⟩)
          all_goals (go_ret; refine ⟨ret_bool ?_, below1 _ _⟩; rw [HR.out]; simp [Pl.formed, *])
        · go_enter Tryz.func77, Tryz.ntmps77
          go_wp2_with (go_at_call 32; refine (operandsR_any _ _).mono ?_; rintro e w' ⟨rfl, rfl⟩)
          all_goals (go_ret; refine ⟨ret_bool ?_, below1 _ _⟩; rw [HR.out]; simp [Pl.formed, *] <;> omega)
end Go.Proofs.YtchoelgkcnnnkaaGreatDoor
namespace Go.Proofs.YtchoelgkcnnnkaaGreatDoor
open Go.RowKit
namespace Pl
theorem restN_succ {rd : List Tm → Option (List Tm)} : ∀ (k : Nat) (ts : List Tm), restN rd (k + 1) ts = (restN rd k ts).bind rd
  | 0, ts => by simp [restN]
  | k + 1, ts => by
    rw [restN]
    cases h : rd ts with
    | none => simp [restN, h]
    | some r =>
      rw [Option.bind_some, restN_succ k r]
      simp [restN, h]
theorem restN_none {rd : List Tm → Option (List Tm)} {k m : Nat} {ts : List Tm} (h : restN rd k ts = none) (hm : k ≤ m) : restN rd m ts = none := by
  induction m with
  | zero => obtain rfl : k = 0 := by omega
            exact h
  | succ m ih =>
    by_cases e : k = m + 1
    · subst e; exact h
    · rw [restN_succ, ih (by omega)]; rfl
theorem rest_drop {d : Nat} {ts r : List Tm} {a : Nat} (h : rest d (ts.drop a) = some r) (ha : a ≤ ts.length) : ∃ p, a ≤ p ∧ p ≤ ts.length ∧ r = ts.drop p := by
  obtain ⟨f, _, _, e⟩ := rest_some _ _ _ h
  refine ⟨a + f.flat.length, by omega, ?_, ?_⟩
  · have := congrArg List.length e
    rw [List.length_drop, List.length_append] at this
    omega
  · rw [← List.drop_drop, e, List.drop_left]
end Pl
def WholeIs (o : Option (List Tm)) (ts : List Tm) (x : Int) : Prop := (x = -1 ∧ o = none) ∨ ∃ p : Nat, x = p ∧ p ≤ ts.length ∧ o = some (ts.drop p)
def WholePost (o : Option (List Tm)) (ts : List Tm) (w : World) (e : Ending) (w' : World) : Prop := ∃ x, e = .returned (.int .i64 x) ∧ WholeIs o ts x ∧ Below w.heap.size w w'
def WholeAt (deep : Nat) : Prop :=
  ∀ (d off c : Nat) (ts : List Tm) (a : Nat) (z : Int) (w : World), ts.length ≤ 60 → ts.length ≤ c → RowIn w d off ts → a ≤ ts.length → z = (deep : Int) →
    Calls Tryz.prog 54 #[.slice (some ⟨d, off, none⟩) ts.length c, .int .i64 a, .int .i64 z] w (WholePost (Pl.rest deep (ts.drop a)) ts w)
set_option maxRecDepth 100000 in
set_option maxHeartbeats 2000000 in
theorem whole_no (deep d off c : Nat) (ts : List Tm) (a : Nat) (z : Int) (w : World) (hl : ts.length ≤ 60) (hc : ts.length ≤ c) (ha : a ≤ ts.length) (hz : z = (deep : Int)) (hd : deep ≤ 12) (h : a = ts.length ∨ (a < ts.length ∧ deep = 0)) :
    Calls Tryz.prog 54 #[.slice (some ⟨d, off, none⟩) ts.length c, .int .i64 a, .int .i64 z] w (WholePost (Pl.rest deep (ts.drop a)) ts w) := by
  have hn : Pl.rest deep (ts.drop a) = none := by
    rcases h with rfl | ⟨_, rfl⟩
    · rw [List.drop_length]; cases deep <;> rfl
    · rfl
  rw [hn]
  clear hn
  rcases h with rfl | ⟨h, rfl⟩
  · have hz' : z ≤ 12 := by omega
    clear hz
    go_enter Tryz.func54, Tryz.ntmps54
    go_wp2
    go_ret
    exact ⟨-1, rfl, .inl ⟨rfl, rfl⟩, Below.refl _ _⟩
  · subst hz
    go_enter Tryz.func54, Tryz.ntmps54
    go_wp2
    go_ret
    exact ⟨-1, rfl, .inl ⟨rfl, rfl⟩, Below.refl _ _⟩
set_option maxRecDepth 100000 in
set_option maxHeartbeats 4000000 in
theorem whole_step (deep : Nat) (hd : deep ≤ 11) (ih : WholeAt deep) (d off c : Nat) (ts : List Tm) (a : Nat) (z : Int) (w : World) (hl : ts.length ≤ 60) (hc : ts.length ≤ c) (hr : RowIn w d off ts) (ha : a < ts.length) (hz : z = (deep : Int) + 1) :
    Calls Tryz.prog 54 #[.slice (some ⟨d, off, none⟩) ts.length c, .int .i64 a, .int .i64 z] w (WholePost (Pl.rest (deep + 1) (ts.drop a)) ts w) := by
  obtain ⟨t, ht⟩ : ∃ t, ts[a]? = some t := ⟨ts[a], by simp⟩
  have hdlt : d < w.heap.size := hr.lt (by intro e; rw [e] at ha; simp at ha)
  have hdr : ts.drop a = t :: ts.drop (a + 1) := by
    rw [List.drop_eq_getElem_cons ha]
    congr 1
    rw [List.getElem?_eq_getElem ha] at ht
    exact Option.some.inj ht
  obtain ⟨k0, k1, k2, k3⟩ := hr a t ht
  obtain ⟨r, hrf⟩ : ∃ r, r = Pl.formed t := ⟨_, rfl⟩
  have HRF := Lib.hid hrf
  have HR := Lib.hid hr
  have HZ := Lib.hid hz
  have HIH := Lib.hid ih
  have z0 : 1 ≤ z := by omega
  have z1 : z ≤ 12 := by omega
  have z2 : (z == 0) = false := by rw [beq_eq_false_iff_ne]; omega
  have HW : Hid (Pl.rest (deep + 1) (ts.drop a) = if Pl.formed t = true then Pl.restN (Pl.rest deep) (Pl.operandsOf t.k).toNat (ts.drop (a + 1)) else none) := Lib.hid (by rw [hdr]; rfl)
  have HTK := Lib.hid ht
  obtain ⟨k, n, s⟩ := t
  dsimp only at *
  have hk3 : s.size ≤ 9223372036854775807 := by omega
  clear hr hz ih ht hdr hrf k3
  cases r with
  | false =>
    go_enter Tryz.func54, Tryz.ntmps54
    go_wp2_with fail
    refine (formedR_any ⟨k, n, s⟩ false _ hk3 HRF).mono ?_
    rintro e w1 ⟨rfl, hb⟩
    have HB := Lib.hid hb
    clear hb
    go_wp2_with fail
    go_ret
    refine ⟨-1, rfl, .inl ⟨rfl, ?_⟩, HB.out⟩
    rw [HW.out, ← HRF.out]; simp
  | true =>
    have hm := Pl.operandsOf_range k
    have hm0 := Pl.formed_operands ⟨k, n, s⟩ HRF.out.symm
    dsimp only at hm0
    obtain ⟨m, hmk⟩ : ∃ m : Nat, (m : Int) = Pl.operandsOf k := ⟨(Pl.operandsOf k).toNat, by omega⟩
    have hm3 : m ≤ 3 := by omega
    have HMK := Lib.hid hmk
    have HW2 : Hid (Pl.rest (deep + 1) (ts.drop a) = Pl.restN (Pl.rest deep) m (ts.drop (a + 1))) := Lib.hid (by rw [HW.out, ← HRF.out, if_pos rfl, ← HMK.out]; simp)
    clear hm hm0 hmk HW
    go_enter Tryz.func54, Tryz.ntmps54
    go_wp2_with fail
    refine (formedR_any ⟨k, n, s⟩ true _ hk3 HRF).mono ?_
    rintro e w1 ⟨rfl, hb⟩
    have HB := Lib.hid hb
    clear hb k0 k1 k2
    go_wp2_with fail
    go_loopw [7, 8] (fun s7 s8 wr => ∃ (i : Nat) (x : Int), i ≤ m ∧ s8 = .int .i64 i ∧ s7 = .int .i64 x ∧ WholeIs (Pl.restN (Pl.rest deep) i (ts.drop (a + 1))) ts x ∧ Below w.heap.size w wr) (fun _ s8 _ => m - (intOf s8).toNat)
    case atStart => exact ⟨0, _, Nat.zero_le _, rfl, rfl, .inr ⟨a + 1, by simp, by omega, rfl⟩, HB.out⟩
    case round =>
      obtain ⟨i, x, hi, rfl, rfl, hx, hbr⟩ := hrel
      obtain ⟨q0, _, _, _⟩ := (HR.out.below hbr hdlt) a _ HTK.out
      dsimp only at q0
      have HBR := Lib.hid hbr
      clear hbr
      by_cases hlt : i < m
      · rcases hx with ⟨rfl, hx⟩ | ⟨p, rfl, hp, hx⟩
        · have HX := Lib.hid hx
          clear hx
          go_wp2_with (go_at_call 32; refine (operandsR_any _ _).mono ?_; rintro e w' ⟨he, rfl⟩; rw [← HMK.out] at he; subst he)
          go_ret
          exact ⟨-1, rfl, .inl ⟨rfl, by rw [HW2.out]; exact Pl.restN_none HX.out (by omega)⟩, HBR.out⟩
        · have HX := Lib.hid hx
          clear hx
          go_wp2_with (go_at_call 32; refine (operandsR_any _ _).mono ?_; rintro e w' ⟨he, rfl⟩; rw [← HMK.out] at he; subst he)
          refine (HIH.out d off c ts p _ _ hl hc (HR.out.below HBR.out hdlt) hp (by have := HZ.out; omega)).mono ?_
          rintro e w2 ⟨x2, rfl, hx2, hb2⟩
          have HX2 := Lib.hid hx2
          have HB2 := Lib.hid (HBR.out.trans (hb2.mono HBR.out.size))
          clear hx2 hb2
          go_wp2_with fail
          go_roundw
          case rel => exact ⟨i + 1, x2, by omega, by go_num, rfl, by rw [Pl.restN_succ, HX.out, Option.bind_some]; exact HX2.out, HB2.out⟩
          case measure => simp [intOf]; omega
      · obtain rfl : i = m := by omega
        have HX := Lib.hid hx
        clear hx
        go_wp2_with (go_at_call 32; refine (operandsR_any _ _).mono ?_; rintro e w' ⟨he, rfl⟩; rw [← HMK.out] at he; subst he)
        go_ret
        exact ⟨x, rfl, by rw [HW2.out]; exact HX.out, HBR.out⟩
theorem whole_all : ∀ deep : Nat, deep ≤ 12 → WholeAt deep
  | 0, _ => fun d off c ts a z w hl hc hr ha hz => whole_no 0 d off c ts a z w hl hc ha hz (by omega) (by omega)
  | deep + 1, h => fun d off c ts a z w hl hc hr ha hz => by
    by_cases e : a = ts.length
    · exact whole_no (deep + 1) d off c ts a z w hl hc ha hz h (.inl e)
    · exact whole_step deep (by omega) (whole_all deep (by omega)) d off c ts a z w hl hc hr (by omega) (by omega)
end Go.Proofs.YtchoelgkcnnnkaaGreatDoor
