/- WALKS of the reference: the type of a name, plain texts, the fields of a term. · WALKS of the reference: plain texts, the fields of a term, whole formulas, Valid. · WALKS of the reference: whole formulas, Valid. · WALKS of the reference: Valid, find, Names. · WALKS of the reference: decimal digits, the text of a formula (Print). -/
import Derived.Test.YtchoelgkcnnnkaaGreatDoorMem
import Derived.Test.YtchoelgkcnnnkaaGreatDoorTypeB
import Derived.Test.YtchoelgkcnnnkaaGreatDoorSaneB
import Derived.Test.YtchoelgkcnnnkaaGreatDoorGrC
import Derived.Test.YtchoelgkcnnnkaaGreatDoorPutP
set_option linter.all false
namespace Go.Proofs.YtchoelgkcnnnkaaGreatDoor
open Go.RowKit
set_option maxHeartbeats 800000 in
theorem typeOfR_long (s : ByteArray) (w : World) (h : (3 : Int) < s.size) (hs : s.size ≤ 9223372036854775807) :
    Calls Tryz.prog 26 #[.string s] w fun e w' => e = .returned (.int .i64 0) ∧ w = w' := by
  have h0 : ((s.size : Int) == 0) = false := by rw [beq_eq_false_iff_ne]; omega
  go_enter Tryz.func26, Tryz.ntmps26
  go_wp2
  go_ret
  exact ⟨rfl, rfl⟩
set_option maxHeartbeats 800000 in
theorem typeOfR_0 (w : World) :
    Calls Tryz.prog 26 #[.string ⟨#[]⟩] w fun e w' => e = .returned (.int .i64 0) ∧ w = w' := by
  go_enter Tryz.func26, Tryz.ntmps26
  go_wp2
  go_ret
  exact ⟨rfl, rfl⟩
set_option maxHeartbeats 800000 in
theorem typeOfR_1 (c : UInt8) (r : Int) (w : World) (HR : Hid (r = Pl.typeOf [c])) :
    Calls Tryz.prog 26 #[.string ⟨#[c]⟩] w fun e w' => e = .returned (.int .i64 r) ∧ w = w' := by
  have e0 : (⟨#[c]⟩ : ByteArray)[0]'(by show 0 < 1; omega) = c := rfl
  go_enter Tryz.func26, Tryz.ntmps26
  go_wp2
  refine wp_loop_rounds 1 ?_
  rw [rounds_succ]
  go_wp2
  all_goals (go_ret; refine ⟨ret_int ?_, rfl⟩; rw [HR.out]; simp_all [Pl.typeOf, Pl.letterT] <;> omega)
set_option maxHeartbeats 1600000 in
theorem typeOfR_2 (c d : UInt8) (r : Int) (w : World) (HR : Hid (r = Pl.typeOf [c, d])) :
    Calls Tryz.prog 26 #[.string ⟨#[c, d]⟩] w fun e w' => e = .returned (.int .i64 r) ∧ w = w' := by
  have e0 : (⟨#[c, d]⟩ : ByteArray)[0]'(by show 0 < 2; omega) = c := rfl
  have e1 : (⟨#[c, d]⟩ : ByteArray)[1]'(by show 1 < 2; omega) = d := rfl
  by_cases hd1 : (d.toNat : Int) < 48
  · have hd3 : ((d.toNat : Int) == 48) = false := by rw [beq_eq_false_iff_ne]; omega
    go_enter Tryz.func26, Tryz.ntmps26
    go_wp2
    refine wp_loop_rounds 1 ?_
    rw [rounds_succ]
    go_wp2
    all_goals (go_ret; refine ⟨ret_int ?_, rfl⟩; rw [HR.out]; simp_all [Pl.typeOf, Pl.letterT, Pl.isDig1] <;> omega)
  by_cases hd2 : (57 : Int) < d.toNat
  · have hd3 : ((d.toNat : Int) == 48) = false := by rw [beq_eq_false_iff_ne]; omega
    go_enter Tryz.func26, Tryz.ntmps26
    go_wp2
    refine wp_loop_rounds 1 ?_
    rw [rounds_succ]
    go_wp2
    all_goals (go_ret; refine ⟨ret_int ?_, rfl⟩; rw [HR.out]; simp_all [Pl.typeOf, Pl.letterT, Pl.isDig1] <;> omega)
  by_cases h3 : (d.toNat : Int) = 48
  · have h3' : ((d.toNat : Int) == 48) = true := by simpa using h3
    clear h3
    go_enter Tryz.func26, Tryz.ntmps26
    go_wp2
    refine wp_loop_rounds 1 ?_
    rw [rounds_succ]
    go_wp2
    all_goals (go_ret; refine ⟨ret_int ?_, rfl⟩; rw [HR.out]; simp_all [Pl.typeOf, Pl.letterT, Pl.isDig1] <;> omega)
  have h3' : ((d.toNat : Int) == 48) = false := by simpa using h3
  clear h3
  go_enter Tryz.func26, Tryz.ntmps26
  go_wp2
  refine wp_loop_rounds 2 ?_
  rw [rounds_succ]
  go_wp2
  rw [rounds_succ]
  go_wp2
  all_goals (go_ret; refine ⟨ret_int ?_, rfl⟩; rw [HR.out]; simp_all [Pl.typeOf, Pl.letterT, Pl.isDig1] <;> omega)
set_option maxHeartbeats 3200000 in
theorem typeOfR_3 (c d f : UInt8) (r : Int) (w : World) (HR : Hid (r = Pl.typeOf [c, d, f])) :
    Calls Tryz.prog 26 #[.string ⟨#[c, d, f]⟩] w fun e w' => e = .returned (.int .i64 r) ∧ w = w' := by
  have e0 : (⟨#[c, d, f]⟩ : ByteArray)[0]'(by show 0 < 3; omega) = c := rfl
  have e1 : (⟨#[c, d, f]⟩ : ByteArray)[1]'(by show 1 < 3; omega) = d := rfl
  have e2 : (⟨#[c, d, f]⟩ : ByteArray)[2]'(by show 2 < 3; omega) = f := rfl
  by_cases hd1 : (d.toNat : Int) < 48
  · have hd3 : ((d.toNat : Int) == 48) = false := by rw [beq_eq_false_iff_ne]; omega
    go_enter Tryz.func26, Tryz.ntmps26
    go_wp2
    refine wp_loop_rounds 1 ?_
    rw [rounds_succ]
    go_wp2
    all_goals (go_ret; refine ⟨ret_int ?_, rfl⟩; rw [HR.out]; simp_all [Pl.typeOf, Pl.letterT, Pl.isDig, Pl.isDig1] <;> omega)
  by_cases hd2 : (57 : Int) < d.toNat
  · have hd3 : ((d.toNat : Int) == 48) = false := by rw [beq_eq_false_iff_ne]; omega
    go_enter Tryz.func26, Tryz.ntmps26
    go_wp2
    refine wp_loop_rounds 1 ?_
    rw [rounds_succ]
    go_wp2
    all_goals (go_ret; refine ⟨ret_int ?_, rfl⟩; rw [HR.out]; simp_all [Pl.typeOf, Pl.letterT, Pl.isDig, Pl.isDig1] <;> omega)
  by_cases h3 : (d.toNat : Int) = 48
  · have h3' : ((d.toNat : Int) == 48) = true := by simpa using h3
    clear h3
    go_enter Tryz.func26, Tryz.ntmps26
    go_wp2
    refine wp_loop_rounds 1 ?_
    rw [rounds_succ]
    go_wp2
    all_goals (go_ret; refine ⟨ret_int ?_, rfl⟩; rw [HR.out]; simp_all [Pl.typeOf, Pl.letterT, Pl.isDig, Pl.isDig1] <;> omega)
  have h3' : ((d.toNat : Int) == 48) = false := by simpa using h3
  clear h3
  by_cases hf1 : (f.toNat : Int) < 48
  · have hf3 : ((f.toNat : Int) == 48) = false := by rw [beq_eq_false_iff_ne]; omega
    go_enter Tryz.func26, Tryz.ntmps26
    go_wp2
    refine wp_loop_rounds 2 ?_
    rw [rounds_succ]
    go_wp2
    rw [rounds_succ]
    go_wp2
    all_goals (go_ret; refine ⟨ret_int ?_, rfl⟩; rw [HR.out]; simp_all [Pl.typeOf, Pl.letterT, Pl.isDig, Pl.isDig1] <;> omega)
  by_cases hf2 : (57 : Int) < f.toNat
  · have hf3 : ((f.toNat : Int) == 48) = false := by rw [beq_eq_false_iff_ne]; omega
    go_enter Tryz.func26, Tryz.ntmps26
    go_wp2
    refine wp_loop_rounds 2 ?_
    rw [rounds_succ]
    go_wp2
    rw [rounds_succ]
    go_wp2
    all_goals (go_ret; refine ⟨ret_int ?_, rfl⟩; rw [HR.out]; simp_all [Pl.typeOf, Pl.letterT, Pl.isDig, Pl.isDig1] <;> omega)
  go_enter Tryz.func26, Tryz.ntmps26
  go_wp2
  refine wp_loop_rounds 3 ?_
  rw [rounds_succ]
  go_wp2
  rw [rounds_succ]
  go_wp2
  rw [rounds_succ]
  go_wp2
  all_goals (go_ret; refine ⟨ret_int ?_, rfl⟩; rw [HR.out]; simp_all [Pl.typeOf, Pl.letterT, Pl.isDig, Pl.isDig1] <;> omega)

theorem typeOfR_any (s : ByteArray) (w : World) (hs : s.size ≤ 9223372036854775807) :
    Calls Tryz.prog 26 #[.string s] w fun e w' => e = .returned (.int .i64 (Pl.typeOf s.data.toList)) ∧ w = w' := by
  obtain ⟨⟨l⟩⟩ := s
  match l with
  | [] => exact typeOfR_0 w
  | [c] => exact typeOfR_1 c _ w rfl
  | [c, d] => exact typeOfR_2 c d _ w rfl
  | [c, d, f] => exact typeOfR_3 c d f _ w rfl
  | c :: d :: f :: g :: t => exact typeOfR_long _ w (by show (3 : Int) < ((t.length + 4 : Nat) : Int); omega) hs
end Go.Proofs.YtchoelgkcnnnkaaGreatDoor
namespace Go.Proofs.YtchoelgkcnnnkaaGreatDoor
open Go.RowKit
namespace Pl
theorem plainB_not (c : UInt8) : ((c.toNat : Int) < 32 ∨ (126 : Int) < c.toNat ∨ (c.toNat : Int) = 39) ↔ plainB c = false := by
  unfold plainB plainR
  constructor
  · rintro (h | h | h)
    · simp; omega
    · simp; omega
    · simp [h]
  · intro h
    simp at h
    omega
theorem allPlain_get {s : ByteArray} (h : allPlain s = true) (i : Nat) (hi : i < s.size) : plainB s[i] = true := by
  unfold allPlain at h
  have := List.all_eq_true.1 h s[i] (by
    rw [show s[i] = s.data.toList[i]'(by simpa using hi) from rfl]
    exact List.getElem_mem _)
  exact this
end Pl
set_option maxHeartbeats 800000 in
theorem plain_any (s : ByteArray) (r : Bool) (w : World) (hs : s.size ≤ 9223372036854775807) (HR : Hid (r = (decide ((s.size : Int) ≤ 40) && Pl.allPlain s))) :
    Calls Tryz.prog 126 #[.string s] w fun e w' => e = .returned (.bool r) ∧ w = w' := by
  go_enter Tryz.func126, Tryz.ntmps126
  go_wp2
  go_loop [3] (fun i => ∃ k : Nat, k ≤ s.size ∧ i = .int .i64 k ∧ ∀ j (hj : j < k) (h : j < s.size), Pl.plainB s[j] = true) (fun i => s.size - (intOf i).toNat)
  case atStart => exact ⟨0, Nat.zero_le _, rfl, fun j hj => by omega⟩
  case round =>
    obtain ⟨k, hk, rfl, hpl⟩ := hrel
    have HPL := Lib.hid hpl
    clear hpl
    by_cases hlt : k < s.size
    · have hq := Pl.plainB_not s[k]
      by_cases hp : Pl.plainB s[k] = true
      · have h1 : ¬ ((s[k].toNat : Int) < 32) := fun h => by have := hq.1 (.inl h); rw [hp] at this; cases this
        have h2 : ¬ ((126 : Int) < s[k].toNat) := fun h => by have := hq.1 (.inr (.inl h)); rw [hp] at this; cases this
        have h3 : ((s[k].toNat : Int) == 39) = false := by
          rw [beq_eq_false_iff_ne]; intro h; have := hq.1 (.inr (.inr h)); rw [hp] at this; cases this
        have HP := Lib.hid hp
        clear hp hq
        go_wp2
        go_round
        case rel => exact ⟨k + 1, by omega, by go_num, fun j hj h => by
          by_cases e : j = k
          · subst e; exact HP.out
          · exact HPL.out j (by omega) h⟩
        case measure => simp [intOf]; omega
      · have hp' : Pl.plainB s[k] = false := by simpa using hp
        have h4 := hq.2 hp'
        have HF : Hid (Pl.allPlain s = false) := Lib.hid (by
          cases e : Pl.allPlain s with
          | false => rfl
          | true => rw [Pl.allPlain_get e k hlt] at hp'; cases hp')
        clear hp hp' hq
        rcases h4 with h4 | h4 | h4
        · go_wp2
          go_ret
          exact ⟨ret_bool (by rw [HR.out, HF.out]; simp), rfl⟩
        · have h5 : ¬ ((s[k].toNat : Int) < 32) := by omega
          go_wp2
          go_ret
          exact ⟨ret_bool (by rw [HR.out, HF.out]; simp), rfl⟩
        · have h5 : ¬ ((s[k].toNat : Int) < 32) := by omega
          have h6 : ¬ ((126 : Int) < s[k].toNat) := by omega
          have h7 : ((s[k].toNat : Int) == 39) = true := by simpa using h4
          go_wp2
          go_ret
          exact ⟨ret_bool (by rw [HR.out, HF.out]; simp), rfl⟩
    · obtain rfl : k = s.size := by omega
      have HT : Hid (Pl.allPlain s = true) := Lib.hid (by
        unfold Pl.allPlain
        rw [List.all_eq_true]
        intro c hc
        obtain ⟨j, hj, rfl⟩ := List.getElem_of_mem hc
        exact HPL.out j (by simpa using hj) (by simpa using hj))
      go_wp2
      go_ret
      exact ⟨ret_bool (by rw [HR.out, HT.out]; simp), rfl⟩
set_option maxHeartbeats 1600000 in
theorem formedR_any (t : Tm) (r : Bool) (w : World) (hs : t.s.size ≤ 9223372036854775807) (HR : Hid (r = Pl.formed t)) :
    Calls Tryz.prog 77 #[t.agg] w fun e w' => e = .returned (.bool r) ∧ Below w.heap.size w w' := by
  obtain ⟨k, n, s⟩ := t
  unfold Tm.agg
  dsimp only at hs ⊢
  by_cases h1 : k = 1
  · subst h1
    go_enter Tryz.func77, Tryz.ntmps77
    go_wp2
    all_goals (go_ret; refine ⟨ret_bool ?_, below1 _ _⟩; rw [HR.out]; simp [Pl.formed, *] <;> omega)
  · by_cases h2 : k = 2
    · subst h2
      go_enter Tryz.func77, Tryz.ntmps77
      go_wp2
      all_goals (go_ret; refine ⟨ret_bool ?_, below1 _ _⟩; rw [HR.out]; simp [Pl.formed, *] <;> omega)
    · by_cases h3 : k = 3
      · subst h3
        obtain ⟨q, hq⟩ : ∃ q, q = (decide ((s.size : Int) ≤ 40) && Pl.allPlain s) := ⟨_, rfl⟩
        have HQ := Lib.hid hq
        clear hq
        go_enter Tryz.func77, Tryz.ntmps77
        go_wp2_with (go_at_call 126; refine (plain_any s q _ hs HQ).mono ?_; rintro e w' ⟨rfl, rfl⟩)
        all_goals (go_ret; refine ⟨ret_bool ?_, below1 _ _⟩; rw [HR.out])
        all_goals (have := HQ.out; simp [Pl.formed, *] <;> omega)
      · by_cases h4 : k = 4
        · subst h4
          go_enter Tryz.func77, Tryz.ntmps77
          go_wp2_with (go_at_call 26; refine (typeOfR_any _ _ hs).mono ?_; rintro e w' ⟨rfl, rfl⟩)
          all_goals (go_ret; refine ⟨ret_bool ?_, below1 _ _⟩; rw [HR.out]; simp [Pl.formed, *])
        · go_enter Tryz.func77, Tryz.ntmps77
          go_wp2_with (go_at_call 32; refine (operandsR_any _ _).mono ?_; rintro e w' ⟨rfl, rfl⟩)
          all_goals (go_ret; refine ⟨ret_bool ?_, below1 _ _⟩; rw [HR.out]; simp [Pl.formed, *] <;> omega)
end Go.Proofs.YtchoelgkcnnnkaaGreatDoor
namespace Go.Proofs.YtchoelgkcnnnkaaGreatDoor
open Go.RowKit
namespace Pl
theorem restN_succ {rd : List Tm → Option (List Tm)} : ∀ (k : Nat) (ts : List Tm), restN rd (k + 1) ts = (restN rd k ts).bind rd
  | 0, ts => by simp [restN]
  | k + 1, ts => by
    rw [restN]
    cases h : rd ts with
    | none => simp [restN, h]
    | some r =>
      rw [Option.bind_some, restN_succ k r]
      simp [restN, h]
theorem restN_none {rd : List Tm → Option (List Tm)} {k m : Nat} {ts : List Tm} (h : restN rd k ts = none) (hm : k ≤ m) : restN rd m ts = none := by
  induction m with
  | zero => obtain rfl : k = 0 := by omega
            exact h
  | succ m ih =>
    by_cases e : k = m + 1
    · subst e; exact h
    · rw [restN_succ, ih (by omega)]; rfl
theorem rest_drop {d : Nat} {ts r : List Tm} {a : Nat} (h : rest d (ts.drop a) = some r) (ha : a ≤ ts.length) : ∃ p, a ≤ p ∧ p ≤ ts.length ∧ r = ts.drop p := by
  obtain ⟨f, _, _, e⟩ := rest_some _ _ _ h
  refine ⟨a + f.flat.length, by omega, ?_, ?_⟩
  · have := congrArg List.length e
    rw [List.length_drop, List.length_append] at this
    omega
  · rw [← List.drop_drop, e, List.drop_left]
end Pl
def WholeIs (o : Option (List Tm)) (ts : List Tm) (x : Int) : Prop := (x = -1 ∧ o = none) ∨ ∃ p : Nat, x = p ∧ p ≤ ts.length ∧ o = some (ts.drop p)
def WholePost (o : Option (List Tm)) (ts : List Tm) (w : World) (e : Ending) (w' : World) : Prop := ∃ x, e = .returned (.int .i64 x) ∧ WholeIs o ts x ∧ Below w.heap.size w w'
def WholeAt (deep : Nat) : Prop :=
  ∀ (d off c : Nat) (ts : List Tm) (a : Nat) (z : Int) (w : World), ts.length ≤ 60 → ts.length ≤ c → RowIn w d off ts → a ≤ ts.length → z = (deep : Int) →
    Calls Tryz.prog 54 #[.slice (some ⟨d, off, none⟩) ts.length c, .int .i64 a, .int .i64 z] w (WholePost (Pl.rest deep (ts.drop a)) ts w)
set_option maxRecDepth 100000 in
set_option maxHeartbeats 2000000 in
theorem whole_no (deep d off c : Nat) (ts : List Tm) (a : Nat) (z : Int) (w : World) (hl : ts.length ≤ 60) (hc : ts.length ≤ c) (ha : a ≤ ts.length) (hz : z = (deep : Int)) (hd : deep ≤ 12) (h : a = ts.length ∨ (a < ts.length ∧ deep = 0)) :
    Calls Tryz.prog 54 #[.slice (some ⟨d, off, none⟩) ts.length c, .int .i64 a, .int .i64 z] w (WholePost (Pl.rest deep (ts.drop a)) ts w) := by
  have hn : Pl.rest deep (ts.drop a) = none := by
    rcases h with rfl | ⟨_, rfl⟩
    · rw [List.drop_length]; cases deep <;> rfl
    · rfl
  rw [hn]
  clear hn
  rcases h with rfl | ⟨h, rfl⟩
  · have hz' : z ≤ 12 := by omega
    clear hz
    go_enter Tryz.func54, Tryz.ntmps54
    go_wp2
    go_ret
    exact ⟨-1, rfl, .inl ⟨rfl, rfl⟩, Below.refl _ _⟩
  · subst hz
    go_enter Tryz.func54, Tryz.ntmps54
    go_wp2
    go_ret
    exact ⟨-1, rfl, .inl ⟨rfl, rfl⟩, Below.refl _ _⟩
set_option maxRecDepth 100000 in
set_option maxHeartbeats 4000000 in
theorem whole_step (deep : Nat) (hd : deep ≤ 11) (ih : WholeAt deep) (d off c : Nat) (ts : List Tm) (a : Nat) (z : Int) (w : World) (hl : ts.length ≤ 60) (hc : ts.length ≤ c) (hr : RowIn w d off ts) (ha : a < ts.length) (hz : z = (deep : Int) + 1) :
    Calls Tryz.prog 54 #[.slice (some ⟨d, off, none⟩) ts.length c, .int .i64 a, .int .i64 z] w (WholePost (Pl.rest (deep + 1) (ts.drop a)) ts w) := by
  obtain ⟨t, ht⟩ : ∃ t, ts[a]? = some t := ⟨ts[a], by simp⟩
  have hdlt : d < w.heap.size := hr.lt (by intro e; rw [e] at ha; simp at ha)
  have hdr : ts.drop a = t :: ts.drop (a + 1) := by
    rw [List.drop_eq_getElem_cons ha]
    congr 1
    rw [List.getElem?_eq_getElem ha] at ht
    exact Option.some.inj ht
  obtain ⟨k0, k1, k2, k3⟩ := hr a t ht
  obtain ⟨r, hrf⟩ : ∃ r, r = Pl.formed t := ⟨_, rfl⟩
  have HRF := Lib.hid hrf
  have HR := Lib.hid hr
  have HZ := Lib.hid hz
  have HIH := Lib.hid ih
  have z0 : 1 ≤ z := by omega
  have z1 : z ≤ 12 := by omega
  have z2 : (z == 0) = false := by rw [beq_eq_false_iff_ne]; omega
  have HW : Hid (Pl.rest (deep + 1) (ts.drop a) = if Pl.formed t = true then Pl.restN (Pl.rest deep) (Pl.operandsOf t.k).toNat (ts.drop (a + 1)) else none) := Lib.hid (by rw [hdr]; rfl)
  have HTK := Lib.hid ht
  obtain ⟨k, n, s⟩ := t
  dsimp only at *
  have hk3 : s.size ≤ 9223372036854775807 := by omega
  clear hr hz ih ht hdr hrf k3
  cases r with
  | false =>
    go_enter Tryz.func54, Tryz.ntmps54
    go_wp2_with fail
    refine (formedR_any ⟨k, n, s⟩ false _ hk3 HRF).mono ?_
    rintro e w1 ⟨rfl, hb⟩
    have HB := Lib.hid hb
    clear hb
    go_wp2_with fail
    go_ret
    refine ⟨-1, rfl, .inl ⟨rfl, ?_⟩, HB.out⟩
    rw [HW.out, ← HRF.out]; simp
  | true =>
    have hm := Pl.operandsOf_range k
    have hm0 := Pl.formed_operands ⟨k, n, s⟩ HRF.out.symm
    dsimp only at hm0
    obtain ⟨m, hmk⟩ : ∃ m : Nat, (m : Int) = Pl.operandsOf k := ⟨(Pl.operandsOf k).toNat, by omega⟩
    have hm3 : m ≤ 3 := by omega
    have HMK := Lib.hid hmk
    have HW2 : Hid (Pl.rest (deep + 1) (ts.drop a) = Pl.restN (Pl.rest deep) m (ts.drop (a + 1))) := Lib.hid (by rw [HW.out, ← HRF.out, if_pos rfl, ← HMK.out]; simp)
    clear hm hm0 hmk HW
    go_enter Tryz.func54, Tryz.ntmps54
    go_wp2_with fail
    refine (formedR_any ⟨k, n, s⟩ true _ hk3 HRF).mono ?_
    rintro e w1 ⟨rfl, hb⟩
    have HB := Lib.hid hb
    clear hb k0 k1 k2
    go_wp2_with fail
    go_loopw [7, 8] (fun s7 s8 wr => ∃ (i : Nat) (x : Int), i ≤ m ∧ s8 = .int .i64 i ∧ s7 = .int .i64 x ∧ WholeIs (Pl.restN (Pl.rest deep) i (ts.drop (a + 1))) ts x ∧ Below w.heap.size w wr) (fun _ s8 _ => m - (intOf s8).toNat)
    case atStart => exact ⟨0, _, Nat.zero_le _, rfl, rfl, .inr ⟨a + 1, by simp, by omega, rfl⟩, HB.out⟩
    case round =>
      obtain ⟨i, x, hi, rfl, rfl, hx, hbr⟩ := hrel
      obtain ⟨q0, _, _, _⟩ := (HR.out.below hbr hdlt) a _ HTK.out
      dsimp only at q0
      have HBR := Lib.hid hbr
      clear hbr
      by_cases hlt : i < m
      · rcases hx with ⟨rfl, hx⟩ | ⟨p, rfl, hp, hx⟩
        · have HX := Lib.hid hx
          clear hx
          go_wp2_with (go_at_call 32; refine (operandsR_any _ _).mono ?_; rintro e w' ⟨he, rfl⟩; rw [← HMK.out] at he; subst he)
          go_ret
          exact ⟨-1, rfl, .inl ⟨rfl, by rw [HW2.out]; exact Pl.restN_none HX.out (by omega)⟩, HBR.out⟩
        · have HX := Lib.hid hx
          clear hx
          go_wp2_with (go_at_call 32; refine (operandsR_any _ _).mono ?_; rintro e w' ⟨he, rfl⟩; rw [← HMK.out] at he; subst he)
          refine (HIH.out d off c ts p _ _ hl hc (HR.out.below HBR.out hdlt) hp (by have := HZ.out; omega)).mono ?_
          rintro e w2 ⟨x2, rfl, hx2, hb2⟩
          have HX2 := Lib.hid hx2
          have HB2 := Lib.hid (HBR.out.trans (hb2.mono HBR.out.size))
          clear hx2 hb2
          go_wp2_with fail
          go_roundw
          case rel => exact ⟨i + 1, x2, by omega, by go_num, rfl, by rw [Pl.restN_succ, HX.out, Option.bind_some]; exact HX2.out, HB2.out⟩
          case measure => simp [intOf]; omega
      · obtain rfl : i = m := by omega
        have HX := Lib.hid hx
        clear hx
        go_wp2_with (go_at_call 32; refine (operandsR_any _ _).mono ?_; rintro e w' ⟨he, rfl⟩; rw [← HMK.out] at he; subst he)
        go_ret
        exact ⟨x, rfl, by rw [HW2.out]; exact HX.out, HBR.out⟩
theorem whole_all : ∀ deep : Nat, deep ≤ 12 → WholeAt deep
  | 0, _ => fun d off c ts a z w hl hc hr ha hz => whole_no 0 d off c ts a z w hl hc ha hz (by omega) (by omega)
  | deep + 1, h => fun d off c ts a z w hl hc hr ha hz => by
    by_cases e : a = ts.length
    · exact whole_no (deep + 1) d off c ts a z w hl hc ha hz h (.inl e)
    · exact whole_step deep (by omega) (whole_all deep (by omega)) d off c ts a z w hl hc hr (by omega) (by omega)
end Go.Proofs.YtchoelgkcnnnkaaGreatDoor
set_option linter.all false
namespace Go.Proofs.YtchoelgkcnnnkaaGreatDoor
open Go.RowKit
namespace Pl
theorem whole12_is {ts : List Tm} {x : Int} (h : WholeIs (rest 12 (ts.drop 0)) ts x) : (x == (ts.length : Int)) = whole12 ts := by
  rw [List.drop_zero] at h
  unfold whole12
  rcases h with ⟨rfl, h⟩ | ⟨p, rfl, hp, h⟩
  · rw [h]
    simp
  · rw [h]
    by_cases e : p = ts.length
    · subst e
      rw [List.drop_length]; simp
    · have h1 : ((p : Int) == (ts.length : Int)) = false := by rw [beq_eq_false_iff_ne]; omega
      rw [h1]
      cases hd : ts.drop p with
      | nil => have := congrArg List.length hd; rw [List.length_drop] at this; simp at this; omega
      | cons _ _ => rfl
theorem whole12_nil : whole12 [] = false := rfl
theorem toList_ne {x s : ByteArray} (h : x ≠ s) : (x.toList == s.toList) = false := by
  rw [beq_eq_false_iff_ne]
  intro e
  rw [Lib.toList_data, Lib.toList_data] at e
  exact h (bytes_ext e)
/-- The place of a text in a list; -1 if it is not there. -/
def FindIs (ns : List ByteArray) (s : ByteArray) (x : Int) : Prop := (x = -1 ∧ s ∉ ns) ∨ ∃ i : Nat, x = i ∧ ns[i]? = some s
end Pl
set_option maxRecDepth 100000 in
set_option maxHeartbeats 1000000 in
theorem validR_nil (a : Option Addr) (c : Nat) (w : World) : Calls Tryz.prog 21 #[.slice a 0 c] w fun e w' => e = .returned (.bool false) ∧ Below w.heap.size w w' := by
  have hw : ∀ w : World, Calls Tryz.prog 54 #[.slice a 0 c, .int .i64 0, .int .i64 12] w fun e w' => e = .returned (.int .i64 (-1)) ∧ w = w' := by
    intro w
    go_enter Tryz.func54, Tryz.ntmps54
    go_wp2
    go_ret
    exact ⟨rfl, rfl⟩
  have HW := Lib.hid hw
  clear hw
  go_enter Tryz.func21, Tryz.ntmps21
  go_wp2_with fail
  refine (HW.out _).mono ?_
  rintro e w1 ⟨rfl, rfl⟩
  go_wp2_with fail
  go_ret
  exact ⟨rfl, Below.refl _ _⟩
set_option maxRecDepth 100000 in
set_option maxHeartbeats 1000000 in
theorem validR_any (v : Value) (ts : List Tm) (r : Bool) (w : World) (hT : TermsIn w v ts) (hl : ts.length ≤ 9223372036854775807) (HR : Hid (r = Pl.validB ts)) :
    Calls Tryz.prog 21 #[v] w fun e w' => e = .returned (.bool r) ∧ Below w.heap.size w w' := by
  obtain ⟨a, c, rfl, hc, hsp, hrow⟩ := hT
  by_cases h0 : ts = []
  · subst h0
    refine (validR_nil a c w).mono fun e w' ⟨h, hb⟩ => ⟨?_, hb⟩
    rw [h, HR.out]; rfl
  · obtain ⟨b, off, rfl, hr⟩ := hrow h0
    have hpos : 0 < ts.length := List.length_pos_iff.2 h0
    by_cases h60 : ts.length ≤ 60
    · have HW := Lib.hid (whole_all 12 (by decide) b off c ts 0 12 w h60 hc hr (Nat.zero_le _) rfl)
      clear hr hsp hrow h0
      go_enter Tryz.func21, Tryz.ntmps21
      go_wp2_with fail
      refine HW.out.mono ?_
      rintro e w1 ⟨x, rfl, hx, hb⟩
      have HB := Lib.hid hb
      have hq := Pl.whole12_is hx
      obtain ⟨q, hqe⟩ : ∃ q, q = Pl.whole12 ts := ⟨_, rfl⟩
      rw [← hqe] at hq
      have HQ := Lib.hid hqe
      clear hb hx hqe
      cases q
      all_goals
        go_wp2_with fail
        go_ret
        refine ⟨ret_bool ?_, HB.out⟩
        rw [HR.out]; unfold Pl.validB; rw [← HQ.out]; simp; try omega
    · have hg : (60 : Int) < (ts.length : Int) := by omega
      clear hr hsp hrow h0
      go_enter Tryz.func21, Tryz.ntmps21
      go_wp2_with fail
      go_ret
      refine ⟨ret_bool ?_, Below.refl _ _⟩
      rw [HR.out]; unfold Pl.validB
      rw [decide_eq_false (by omega)]; rfl
set_option maxRecDepth 100000 in
set_option maxHeartbeats 1000000 in
theorem find_any (v : Value) (ns : List ByteArray) (s : ByteArray) (w : World) (hT : StrsIn w v ns) (hl : ns.length ≤ 1000000000) :
    Calls Tryz.prog 47 #[v, .string s] w fun e w' => ∃ x, e = .returned (.int .i64 x) ∧ Pl.FindIs ns s x ∧ w = w' := by
  obtain ⟨a, c, rfl, hc, hr⟩ := hT
  have HR := Lib.hid hr
  clear hr
  go_enter Tryz.func47, Tryz.ntmps47
  go_wp2
  go_loop [5] (fun i => ∃ k : Nat, k ≤ ns.length ∧ i = .int .i64 k ∧ ∀ j x, j < k → ns[j]? = some x → x ≠ s) (fun i => ns.length - (intOf i).toNat)
  case atStart => exact ⟨0, Nat.zero_le _, rfl, fun j x h => by omega⟩
  case round =>
    obtain ⟨k, hk, rfl, hno⟩ := hrel
    have HNO := Lib.hid hno
    clear hno
    by_cases hkl : k < ns.length
    · have hne : ns ≠ [] := by intro h; rw [h] at hkl; simp at hkl
      obtain ⟨g, rfl, hg, hgc⟩ := HR.out hne
      obtain ⟨x, hx⟩ : ∃ x, ns[k]? = some x := ⟨ns[k], by simp⟩
      have x0 := hgc k x hx
      have HXK := Lib.hid hx
      clear hx hgc hne
      by_cases he : x = s
      · subst he
        go_wp2
        go_ret
        exact ⟨k, rfl, .inr ⟨k, rfl, HXK.out⟩, rfl⟩
      · have hb : (x.toList == s.toList) = false := Pl.toList_ne he
        have HNE := Lib.hid he
        clear he
        go_wp2
        go_round
        case rel => exact ⟨k + 1, by omega, by go_num, fun j y hj hy => by
          by_cases e : j = k
          · subst e
            rw [HXK.out] at hy
            cases hy
            exact HNE.out
          · exact HNO.out j y (by omega) hy⟩
        case measure => simp [intOf]; omega
    · obtain rfl : k = ns.length := by omega
      go_wp2
      go_ret
      refine ⟨-1, rfl, .inl ⟨rfl, fun h => ?_⟩, rfl⟩
      obtain ⟨j, hj, e⟩ := List.getElem_of_mem h
      exact HNO.out j _ hj (List.getElem?_eq_getElem hj) e
set_option maxRecDepth 100000 in
set_option maxHeartbeats 1000000 in
theorem namesR_bad (v : Value) (ts : List Tm) (w : World) (hT : TermsIn w v ts) (hl : ts.length ≤ 9223372036854775807) (HV : Hid (false = Pl.validB ts)) :
    Calls Tryz.prog 16 #[v] w fun e w' => e = .returned (.tuple #[.slice none 0 0, .int .i64 150]) ∧ Below w.heap.size w w' := by
  have HT := Lib.hid hT
  obtain ⟨a, c, rfl, _⟩ := hT
  go_enter Tryz.func16, Tryz.ntmps16
  go_wp2_with fail
  refine (validR_any _ ts false _ HT.out hl HV).mono ?_
  rintro e w1 ⟨rfl, hb⟩
  have HB := Lib.hid hb
  clear hb
  go_wp2_with fail
  go_ret2
  exact ⟨rfl, HB.out⟩
theorem Pl.find_not {ns : List ByteArray} {s : ByteArray} {x : Int} (h : Pl.FindIs ns s x) : (x < 0 ↔ Lib.containsS ns s = false) ∧ -1 ≤ x ∧ x ≤ ns.length := by
  rcases h with ⟨rfl, h⟩ | ⟨i, rfl, h⟩
  · refine ⟨⟨fun _ => ?_, fun _ => by decide⟩, by decide, by omega⟩
    cases e : Lib.containsS ns s with
    | false => rfl
    | true => exact absurd ((Lib.containsS_iff ns s).1 e) h
  · have hm := List.mem_of_getElem? h
    have hi := (List.getElem?_eq_some_iff.1 h).1
    refine ⟨⟨fun h => by omega, fun e => ?_⟩, by omega, by omega⟩
    rw [(Lib.containsS_iff ns s).2 hm] at e
    cases e
theorem strs_of_at {w : World} {B : Nat} {v : Value} {ns : List ByteArray} (h : StrsAt w B v ns) : StrsIn w v ns := names_shape h
set_option maxRecDepth 100000 in
set_option maxHeartbeats 4000000 in
theorem namesR_ok (ts : List Tm) (d off c : Nat) (w : World) (hc : ts.length ≤ c) (hrow : RowIn w d off ts) (hl : ts.length ≤ 60) (hn0 : ts ≠ []) (HV : Hid (true = Pl.validB ts)) :
    Calls Tryz.prog 16 #[.slice (some ⟨d, off, none⟩) ts.length c] w fun e w' => ∃ v, e = .returned (.tuple #[v, .int .i64 0]) ∧ StrsAt w' w.heap.size v (Pl.namesOf ts) ∧ Below w.heap.size w w' := by
  have hd0 := hrow.lt hn0
  have HR := Lib.hid hrow
  obtain ⟨i0, hi0, hz0, hz1, hz2⟩ := info_parts info9
  have hT : Hid (TermsIn w (.slice (some ⟨d, off, none⟩) ts.length c) ts) := Lib.hid ⟨_, _, rfl, hc, by rintro p ⟨⟩; rfl, fun _ => ⟨_, _, rfl, hrow⟩⟩
  clear hrow hn0
  go_enter Tryz.func16, Tryz.ntmps16
  go_wp2_with fail
  refine (validR_any _ ts true _ hT.out (by omega) HV).mono ?_
  rintro e w0 ⟨rfl, hb⟩
  have HB := Lib.hid hb
  clear hb
  go_wp2_with fail
  go_loopw [4, 5] (fun v i wr => ∃ k : Nat, k ≤ ts.length ∧ i = .int .i64 k ∧ StrsAt wr w.heap.size v (Pl.namesOf (ts.take k)) ∧ Below w.heap.size w wr) (fun _ i _ => ts.length - (intOf i).toNat)
  case atStart => exact ⟨0, Nat.zero_le _, rfl, World.ownsRow_nil _ _ _ _, HB.out⟩
  case round =>
    obtain ⟨k, hk, rfl, hown, hbr⟩ := hrel
    have hsz := hbr.size
    by_cases hkl : k < ts.length
    · obtain ⟨t, ht⟩ : ∃ t, ts[k]? = some t := ⟨ts[k], by simp⟩
      obtain ⟨q1, q2, q3, q4⟩ := (HR.out.below hbr hd0) k t ht
      have hnl := Pl.namesOf_len (ts.take k)
      have hnl2 : (Pl.namesOf (ts.take k)).length ≤ 60 := by rw [List.length_take] at hnl; omega
      have HS := Lib.hid (Pl.namesOf_succ ht)
      obtain ⟨tk, tn, tss⟩ := t
      obtain ⟨ns, hns⟩ : ∃ ns, ns = Pl.namesOf (ts.take k) := ⟨_, rfl⟩
      rw [← hns] at hown hnl2 HS
      have HOW := Lib.hid hown
      have HBR := Lib.hid hbr
      clear ht hnl hns hown hbr
      dsimp only at *
      by_cases h4 : tk = 4
      · subst h4
        go_wp2_with fail
        refine (find_any _ ns tss _ (strs_of_at HOW.out) (by omega)).mono ?_
        rintro e w' ⟨x, rfl, hx, rfl⟩
        obtain ⟨hx1, hx2, hx3⟩ := Pl.find_not hx
        have hx4 : x ≤ 60 := by omega
        have HX1 := Lib.hid hx1
        clear hx hx1 hx3
        by_cases hneg : x < 0
        · have HC := Lib.hid (HX1.out.1 hneg)
          go_wp2_with (at_builtin; go_loud (refine wpList_append_own _ rfl _ _ 33 rfl w.heap.size 9 i0 (.string ByteArray.empty) 1 16 Tryz.underlying33 hi0 hz0 hz1 hz2 rfl (by decide) _ _ _ rfl (World.ownsRow.alloc HOW.out _) ⟨wr.heap.size, 0, none⟩ 1 1 [.string tss] rfl rfl ?c1 ?c2 ?c3 ?c4 ?c5 ?_))
          case c1 =>
            intro j u hj
            match j, hj with
            | 0, hj => simp at hj; subst hj; simp [Addr.add]
          case c2 => intro u hu; simp at hu; subst hu; rfl
          case c3 => unfold maxLen; omega
          case c4 => omega
          case c5 => simp; omega
          intro v' w1 hown' hgrow _
          have hgr := Lib.hid hgrow
          have hlt := fun k hk => (World.ownsRow.lt HOW.out k hk).1
          have HLT := Lib.hid hlt
          have HOW2 := Lib.hid hown'
          clear hgrow hlt hown'
          go_wp2_with fail
          go_roundw
          case rel => exact ⟨k + 1, by omega, by go_num, by rw [HS.out]; simp only [Pl.nameStep, HC.out]; simpa [StrsAt] using HOW2.out, (HBR.out.alloc hsz _).grown hgr.out (by simp; omega) HLT.out⟩
          case measure => simp [intOf]; omega
        · have hc : Lib.containsS ns tss = true := by
            cases e : Lib.containsS ns tss with
            | true => rfl
            | false => exact absurd (HX1.out.2 e) hneg
          have HC := Lib.hid hc
          clear hc
          go_wp2_with fail
          go_roundw
          case rel => exact ⟨k + 1, by omega, by go_num, by rw [HS.out]; simp only [Pl.nameStep, HC.out]; simpa using HOW.out, HBR.out⟩
          case measure => simp [intOf]; omega
      · have h4' : (tk == 4) = false := by simpa using h4
        have H4 := Lib.hid h4
        clear h4
        go_wp2_with fail
        go_roundw
        case rel => exact ⟨k + 1, by omega, by go_num, by rw [HS.out]; simp only [Pl.nameStep]; rw [if_neg (by simp [H4.out])]; exact HOW.out, HBR.out⟩
        case measure => simp [intOf]; omega
    · obtain rfl : k = ts.length := by omega
      rw [List.take_length] at hown
      have HOW := Lib.hid hown
      have HBR := Lib.hid hbr
      clear hown hbr
      go_wp2_with fail
      go_ret2
      exact ⟨_, rfl, HOW.out, HBR.out⟩
end Go.Proofs.YtchoelgkcnnnkaaGreatDoor
set_option linter.all false
namespace Go.Proofs.YtchoelgkcnnnkaaGreatDoor
open Go.RowKit
namespace Pl
theorem dec_step (u : Nat) (h : 10 ≤ u) : Lib.decDigits u = Lib.decDigits (u / 10) ++ [UInt8.ofNat (48 + u % 10)] := by
  rw [Lib.decDigits, dif_neg (by omega)]
theorem dec_one (u : Nat) (h : u < 10) : Lib.decDigits u = [UInt8.ofNat (48 + u)] := by
  rw [Lib.decDigits, dif_pos h]
theorem dec_len (n : Nat) (h : n ≤ 1000000000000) : (Lib.decDigits n).length ≤ 13 := decDigits_len 12 n (by omega)
theorem byte_nat (k : Nat) (h : k < 10) : ((UInt8.ofNat (48 + k)).toNat : Int) = 48 + (k : Int) := by rw [ofNat_dig k h]; omega
end Pl
theorem mkS_one (c : UInt8) (l : List UInt8) : (⟨#[c]⟩ : ByteArray) ++ mkS l = mkS (c :: l) := by
  apply bytes_ext
  rw [ByteArray.data_append, Array.toList_append]
  rfl
theorem mkS_append (a b : List UInt8) : mkS a ++ mkS b = mkS (a ++ b) := by
  apply bytes_ext
  rw [ByteArray.data_append, Array.toList_append]
  rfl
set_option maxRecDepth 100000 in
set_option maxHeartbeats 2000000 in
theorem digits_any (n : Nat) (hn : n ≤ 1000000000000) (w : World) : Calls Tryz.prog 70 #[.int .i64 n] w fun e w' => e = .returned (.string (mkS (Lib.decDigits n))) ∧ Below w.heap.size w w' := by
  have hl := Pl.dec_len n hn
  go_enter Tryz.func70, Tryz.ntmps70
  go_wp2_with fail
  go_loopw [0, 3] (fun s0 s3 wr => ∃ (u : Nat) (l : List UInt8), s0 = .int .i64 u ∧ s3 = .string (mkS l) ∧ u ≤ 1000000000000 ∧ Lib.decDigits n = Lib.decDigits u ++ l ∧ Below w.heap.size w wr) (fun s0 _ _ => (intOf s0).toNat)
  case atStart => exact ⟨n, [], rfl, rfl, hn, by simp, Below.refl _ _⟩
  case round =>
    obtain ⟨u, l, rfl, rfl, hu, hd, hbr⟩ := hrel
    have hll : l.length ≤ 13 := by have := congrArg List.length hd; rw [List.length_append] at this; omega
    have hls : (mkS l).size ≤ 13 := hll
    have HD := Lib.hid hd
    have HB := Lib.hid hbr
    clear hd hbr
    by_cases h10 : 10 ≤ u
    · have h10' : (10 : Int) ≤ (u : Int) := by omega
      obtain ⟨b, hb⟩ : ∃ b, b = UInt8.ofNat (48 + u % 10) := ⟨_, rfl⟩
      have hc := one_byte wr (48 + (u : Int) % 10) b (by rw [hb, Pl.byte_nat _ (by omega)]; omega)
      have HBB := Lib.hid hb
      clear hb
      go_wp2_with fail
      go_roundw
      case rel => exact ⟨u / 10, b :: l, by simp, by rw [mkS_one], by omega, by rw [HD.out, Pl.dec_step u h10, HBB.out]; simp, HB.out.alloc HB.out.size _⟩
      case measure => simp [intOf]; omega
    · have h10' : ¬ (10 : Int) ≤ (u : Int) := by omega
      obtain ⟨b, hb⟩ : ∃ b, b = UInt8.ofNat (48 + u) := ⟨_, rfl⟩
      have hc := one_byte wr (48 + (u : Int)) b (by rw [hb, Pl.byte_nat _ (by omega)])
      have HBB := Lib.hid hb
      clear hb
      go_wp2_with fail
      go_ret
      refine ⟨?_, HB.out.alloc HB.out.size _⟩
      rw [mkS_one, HD.out, Pl.dec_one u (by omega), HBB.out]
      rfl
theorem box_cells {w : World} {b : Nat} {x0 x1 x2 : Value} {T : TypeId} (h : w.heap[b]? = some (.cells #[x0, x1, x2] T (0, 0))) : w.cell? ⟨b, 0, none⟩ = some x0 ∧ w.cell? ⟨b, 1, none⟩ = some x1 ∧ w.cell? ⟨b, 2, none⟩ = some x2 := by
  refine ⟨?_, ?_, ?_⟩ <;> (rw [Lib.cell_of_heap h]; rfl)
/-- What print gives, at the place of a formula. -/
def PrAt (d off c : Nat) (ts : List Tm) (f : Fm) : Prop :=
  ∀ (pre post : List Tm) (i : Int) (w : World), f.wf → ts = pre ++ (f.flat ++ post) → i = (pre.length : Int) → RowIn w d off ts → d < w.heap.size →
    Calls Tryz.prog 45 #[.slice (some ⟨d, off, none⟩) ts.length c, .int .i64 i] w fun e w' => e = .returned (.tuple #[.string (mkS (Pl.text f)), .int .i64 (i + f.flat.length)]) ∧ Below w.heap.size w w'
theorem itoa_is {n : Int} (h : 0 ≤ n) : Lib.itoa n = Lib.decDigits n.toNat := Pl.itoa_nat n h
set_option maxRecDepth 100000 in
set_option maxHeartbeats 2000000 in
theorem pr_leaf (d off c : Nat) (ts : List Tm) (hl : ts.length ≤ 60) (hc : ts.length ≤ c) (t : Tm) : PrAt d off c ts (.lf t) := by
  intro pre post i w hwf hts hi hrow hd
  have hget := mid_get' (t := t) (post := post) (by simpa [Fm.flat] using hts)
  have hlt : pre.length < ts.length := (List.getElem?_eq_some_iff.1 hget).1
  obtain ⟨m0, m1, m2, m3⟩ := hrow pre.length t hget
  subst hi
  have hlen : (pre.length : Int) + 1 ≤ 60 := by omega
  have e1 : ((pre.length : Int) + ((Fm.lf t).flat.length : Nat)) = (pre.length : Int) + 1 := rfl
  rw [e1]
  clear hts hget hrow e1
  have htx : Pl.text (.lf t) = Pl.leafText t := rfl
  rw [htx]
  clear htx
  rcases Pl.leaf_cases hwf.1 hwf.2 with ⟨n, rfl, h1, h2⟩ | rfl | rfl | ⟨s, rfl, h1, h2⟩ | ⟨s, rfl, h1⟩
  · obtain ⟨u, rfl⟩ : ∃ u : Nat, n = (u : Int) := ⟨n.toNat, by omega⟩
    have hx : Hid (Pl.leafText ⟨1, (u : Int), ⟨#[]⟩⟩ = Lib.decDigits u) := Lib.hid (by show Lib.itoa (u : Int) = _; rw [itoa_is (by omega)]; simp)
    rw [hx.out]
    dsimp only at *
    clear hwf
    go_enter Tryz.func45, Tryz.ntmps45
    go_wp2_with fail
    refine (digits_any u (by omega) _).mono ?_
    rintro e w1 ⟨rfl, hb⟩
    have HB := Lib.hid ((below1 w _).trans (hb.mono (by simp)))
    clear hb
    go_wp2_with fail
    go_ret2
    exact ⟨rfl, HB.out⟩
  · dsimp only at *
    clear hwf
    go_enter Tryz.func45, Tryz.ntmps45
    go_wp2_with fail
    go_ret2
    exact ⟨rfl, below1 w _⟩
  · dsimp only at *
    clear hwf
    go_enter Tryz.func45, Tryz.ntmps45
    go_wp2_with fail
    go_ret2
    exact ⟨rfl, below1 w _⟩
  · have hx : Hid (mkS (Pl.leafText ⟨3, 0, s⟩) = (⟨#[39]⟩ : ByteArray) ++ s ++ ⟨#[39]⟩) := Lib.hid (by
      apply bytes_ext
      rw [ByteArray.data_append, ByteArray.data_append, Array.toList_append, Array.toList_append]
      show (39 :: (s.data.toList ++ [39])) = [39] ++ s.data.toList ++ [39]
      simp)
    rw [hx.out]
    dsimp only at *
    clear hwf
    go_enter Tryz.func45, Tryz.ntmps45
    go_wp2_with fail
    go_ret2
    exact ⟨rfl, below1 w _⟩
  · have hx : Hid (mkS (Pl.leafText ⟨4, 0, s⟩) = s) := Lib.hid (eq_mkS s).symm
    rw [hx.out]
    dsimp only at *
    clear hwf
    go_enter Tryz.func45, Tryz.ntmps45
    go_wp2_with fail
    go_ret2
    exact ⟨rfl, below1 w _⟩
set_option maxRecDepth 100000 in
set_option maxHeartbeats 2000000 in
theorem pr_un (d off c : Nat) (ts : List Tm) (hl : ts.length ≤ 60) (hc : ts.length ≤ c) (t : Tm) (a : Fm) (iha : PrAt d off c ts a) : PrAt d off c ts (.un t a) := by
  intro pre post i w hwf hts hi hrow hd
  have hget := mid_get' (t := t) (post := a.flat ++ post) (by simpa [Fm.flat] using hts)
  have hlt : pre.length < ts.length := (List.getElem?_eq_some_iff.1 hget).1
  obtain ⟨m0, m1, m2, m3⟩ := hrow pre.length t hget
  subst hi
  have hlen : (pre.length : Int) + 1 + (a.flat.length : Int) ≤ 60 := by have := congrArg List.length hts; simp [Fm.flat] at this; omega
  have htl := Pl.text_len a hwf.2.2
  have hal : a.flat.length ≤ 60 := by omega
  have hts2 : (mkS (Pl.text a)).size ≤ 2700 := by show (Pl.text a).length ≤ 2700; omega
  have e1 : (pre.length : Int) + ((Fm.un t a).flat.length : Nat) = (pre.length : Int) + 1 + (a.flat.length : Nat) := by simp [Fm.flat]; omega
  rw [e1]
  have HA := Lib.hid (fun (W : World) (hb : Below w.heap.size w W) => iha (pre ++ [t]) post ((pre.length : Int) + 1) W hwf.2.2 (by rw [hts]; simp [Fm.flat]) (by simp) (hrow.below hb hd) (Nat.lt_of_lt_of_le hd hb.size))
  have hk := Pl.kinds1 hwf.2.1
  have hnf := Pl.node_form hwf.1 (by rw [hwf.2.1]; decide)
  have hx : Pl.text (.un t a) = Pl.opByte t.k :: Pl.text a := rfl
  rw [hx]
  obtain ⟨k, n, s⟩ := t
  obtain ⟨T, hT⟩ : ∃ T, T = mkS (Pl.text a) := ⟨_, rfl⟩
  have HR : Hid (mkS (Pl.opByte k :: Pl.text a) = (⟨#[Pl.opByte k]⟩ : ByteArray) ++ T) := Lib.hid (by rw [hT, mkS_one])
  rw [HR.out]
  rw [← hT] at hts2 HA
  dsimp only at *
  clear hts hget hrow e1 hwf hnf htl iha hx HR hT
  rcases hk with rfl | rfl | rfl
  all_goals
    go_enter Tryz.func45, Tryz.ntmps45
    go_wp2_with fail
    refine (HA.out _ (below1 w _)).mono ?_
    rintro e w1 ⟨rfl, hb⟩
    obtain ⟨y0, y1, y2⟩ := box_cells ((hb.block w.heap.size (by simp)).trans (MapKept.heap_alloc w _).1)
    have HB := Lib.hid ((below1 w _).trans (hb.mono (by simp)))
    clear hb
    go_wp2_with fail
    go_ret2
    exact ⟨rfl, HB.out⟩
set_option maxRecDepth 100000 in
set_option maxHeartbeats 4000000 in
theorem pr_bi (d off c : Nat) (ts : List Tm) (hl : ts.length ≤ 60) (hc : ts.length ≤ c) (t : Tm) (a b : Fm) (iha : PrAt d off c ts a) (ihb : PrAt d off c ts b) : PrAt d off c ts (.bi t a b) := by
  intro pre post i w hwf hts hi hrow hd
  have hget := mid_get' (t := t) (post := a.flat ++ (b.flat ++ post)) (by simpa [Fm.flat] using hts)
  have hlt : pre.length < ts.length := (List.getElem?_eq_some_iff.1 hget).1
  obtain ⟨m0, m1, m2, m3⟩ := hrow pre.length t hget
  subst hi
  have hlen : (pre.length : Int) + 1 + (a.flat.length : Int) + (b.flat.length : Int) ≤ 60 := by have := congrArg List.length hts; simp [Fm.flat] at this; omega
  have htl := Pl.text_len a hwf.2.2.1
  have htl2 := Pl.text_len b hwf.2.2.2
  have hts2 : (mkS (Pl.text a)).size ≤ 2700 := by show (Pl.text a).length ≤ 2700; omega
  have hts3 : (mkS (Pl.text b)).size ≤ 2700 := by show (Pl.text b).length ≤ 2700; omega
  have e1 : (pre.length : Int) + ((Fm.bi t a b).flat.length : Nat) = (pre.length : Int) + 1 + (a.flat.length : Nat) + (b.flat.length : Nat) := by simp [Fm.flat]; omega
  rw [e1]
  have HA := Lib.hid (fun (W : World) (hb : Below w.heap.size w W) => iha (pre ++ [t]) (b.flat ++ post) ((pre.length : Int) + 1) W hwf.2.2.1 (by rw [hts]; simp [Fm.flat]) (by simp) (hrow.below hb hd) (Nat.lt_of_lt_of_le hd hb.size))
  have HBB := Lib.hid (fun (W : World) (hb : Below w.heap.size w W) => ihb (pre ++ [t] ++ a.flat) post ((pre.length : Int) + 1 + (a.flat.length : Nat)) W hwf.2.2.2 (by rw [hts]; simp [Fm.flat]) (by simp; omega) (hrow.below hb hd) (Nat.lt_of_lt_of_le hd hb.size))
  have hk := Pl.kinds2 hwf.2.1
  have hx : Pl.text (.bi t a b) = 40 :: (Pl.text a ++ (Pl.opByte t.k :: (Pl.text b ++ [41]))) := rfl
  rw [hx]
  obtain ⟨k, n, s⟩ := t
  obtain ⟨T, hT⟩ : ∃ T, T = mkS (Pl.text a) := ⟨_, rfl⟩
  obtain ⟨U, hU⟩ : ∃ U, U = mkS (Pl.text b) := ⟨_, rfl⟩
  have HR : Hid (mkS (40 :: (Pl.text a ++ (Pl.opByte k :: (Pl.text b ++ [41])))) = (⟨#[40]⟩ : ByteArray) ++ T ++ ⟨#[Pl.opByte k]⟩ ++ U ++ ⟨#[41]⟩) := Lib.hid (by
    rw [hT, hU]
    show mkS _ = mkS [40] ++ mkS (Pl.text a) ++ mkS [Pl.opByte k] ++ mkS (Pl.text b) ++ mkS [41]
    rw [mkS_append, mkS_append, mkS_append, mkS_append]
    congr 1
    simp)
  rw [HR.out]
  rw [← hT] at hts2 HA
  rw [← hU] at hts3 HBB
  dsimp only at *
  clear hts hget hrow e1 hwf htl htl2 iha ihb hx HR hT hU
  rcases hk with rfl | rfl | rfl | rfl | rfl | rfl | rfl | rfl | rfl
  all_goals
    go_enter Tryz.func45, Tryz.ntmps45
    go_wp2_with fail
    refine (HA.out _ (below1 w _)).mono ?_
    rintro e w1 ⟨rfl, hb⟩
    have hk1 := (hb.block w.heap.size (by simp)).trans (MapKept.heap_alloc w _).1
    obtain ⟨y0, y1, y2⟩ := box_cells hk1
    have HK1 := Lib.hid hk1
    have hs1 : w.heap.size < w1.heap.size := by have := hb.size; simp at this; omega
    have HB := Lib.hid ((below1 w _).trans (hb.mono (by simp)))
    clear hb hk1
    go_wp2_with fail
    refine (HBB.out _ HB.out).mono ?_
    rintro e w2 ⟨rfl, hb⟩
    clear y0 y1 y2
    obtain ⟨y0, y1, y2⟩ := box_cells ((hb.block w.heap.size hs1).trans HK1.out)
    have HB2 := Lib.hid (HB.out.trans (hb.mono HB.out.size))
    clear hb
    go_wp2_with fail
    go_ret2
    exact ⟨rfl, HB2.out⟩
set_option maxRecDepth 100000 in
set_option maxHeartbeats 4000000 in
theorem pr_tr (d off c : Nat) (ts : List Tm) (hl : ts.length ≤ 60) (hc : ts.length ≤ c) (t : Tm) (a b g : Fm) (iha : PrAt d off c ts a) (ihb : PrAt d off c ts b) (ihg : PrAt d off c ts g) : PrAt d off c ts (.tr t a b g) := by
  intro pre post i w hwf hts hi hrow hd
  have hget := mid_get' (t := t) (post := a.flat ++ (b.flat ++ (g.flat ++ post))) (by simpa [Fm.flat] using hts)
  have hlt : pre.length < ts.length := (List.getElem?_eq_some_iff.1 hget).1
  obtain ⟨m0, m1, m2, m3⟩ := hrow pre.length t hget
  subst hi
  have hlen : (pre.length : Int) + 1 + (a.flat.length : Int) + (b.flat.length : Int) + (g.flat.length : Int) ≤ 60 := by have := congrArg List.length hts; simp [Fm.flat] at this; omega
  have htl := Pl.text_len a hwf.2.2.1
  have htl2 := Pl.text_len b hwf.2.2.2.1
  have htl3 := Pl.text_len g hwf.2.2.2.2
  have hts2 : (mkS (Pl.text a)).size ≤ 2700 := by show (Pl.text a).length ≤ 2700; omega
  have hts3 : (mkS (Pl.text b)).size ≤ 2700 := by show (Pl.text b).length ≤ 2700; omega
  have hts4 : (mkS (Pl.text g)).size ≤ 2700 := by show (Pl.text g).length ≤ 2700; omega
  have e1 : (pre.length : Int) + ((Fm.tr t a b g).flat.length : Nat) = (pre.length : Int) + 1 + (a.flat.length : Nat) + (b.flat.length : Nat) + (g.flat.length : Nat) := by simp [Fm.flat]; omega
  rw [e1]
  have HA := Lib.hid (fun (W : World) (hb : Below w.heap.size w W) => iha (pre ++ [t]) (b.flat ++ (g.flat ++ post)) ((pre.length : Int) + 1) W hwf.2.2.1 (by rw [hts]; simp [Fm.flat]) (by simp) (hrow.below hb hd) (Nat.lt_of_lt_of_le hd hb.size))
  have HBB := Lib.hid (fun (W : World) (hb : Below w.heap.size w W) => ihb (pre ++ [t] ++ a.flat) (g.flat ++ post) ((pre.length : Int) + 1 + (a.flat.length : Nat)) W hwf.2.2.2.1 (by rw [hts]; simp [Fm.flat]) (by simp; omega) (hrow.below hb hd) (Nat.lt_of_lt_of_le hd hb.size))
  have HGG := Lib.hid (fun (W : World) (hb : Below w.heap.size w W) => ihg (pre ++ [t] ++ a.flat ++ b.flat) post ((pre.length : Int) + 1 + (a.flat.length : Nat) + (b.flat.length : Nat)) W hwf.2.2.2.2 (by rw [hts]; simp [Fm.flat]) (by simp; omega) (hrow.below hb hd) (Nat.lt_of_lt_of_le hd hb.size))
  have hk := Pl.kinds3 hwf.2.1
  have hx : Pl.text (.tr t a b g) = [63, 40] ++ (Pl.text a ++ (44 :: (Pl.text b ++ (44 :: (Pl.text g ++ [41]))))) := rfl
  rw [hx]
  obtain ⟨k, n, s⟩ := t
  obtain ⟨T, hT⟩ : ∃ T, T = mkS (Pl.text a) := ⟨_, rfl⟩
  obtain ⟨U, hU⟩ : ∃ U, U = mkS (Pl.text b) := ⟨_, rfl⟩
  obtain ⟨V, hV⟩ : ∃ V, V = mkS (Pl.text g) := ⟨_, rfl⟩
  have HR : Hid (mkS ([63, 40] ++ (Pl.text a ++ (44 :: (Pl.text b ++ (44 :: (Pl.text g ++ [41])))))) = (⟨#[63, 40]⟩ : ByteArray) ++ T ++ ⟨#[44]⟩ ++ U ++ ⟨#[44]⟩ ++ V ++ ⟨#[41]⟩) := Lib.hid (by
    rw [hT, hU, hV]
    show mkS _ = mkS [63, 40] ++ mkS (Pl.text a) ++ mkS [44] ++ mkS (Pl.text b) ++ mkS [44] ++ mkS (Pl.text g) ++ mkS [41]
    rw [mkS_append, mkS_append, mkS_append, mkS_append, mkS_append, mkS_append]
    congr 1
    simp)
  rw [HR.out]
  rw [← hT] at hts2 HA
  rw [← hU] at hts3 HBB
  rw [← hV] at hts4 HGG
  dsimp only at *
  subst hk
  clear hts hget hrow e1 hwf htl htl2 htl3 iha ihb ihg hx HR hT hU hV
  go_enter Tryz.func45, Tryz.ntmps45
  go_wp2_with fail
  refine (HA.out _ (below1 w _)).mono ?_
  rintro e w1 ⟨rfl, hb⟩
  have hk1 := (hb.block w.heap.size (by simp)).trans (MapKept.heap_alloc w _).1
  obtain ⟨y0, y1, y2⟩ := box_cells hk1
  have HK1 := Lib.hid hk1
  have hs1 : w.heap.size < w1.heap.size := by have := hb.size; simp at this; omega
  have HB := Lib.hid ((below1 w _).trans (hb.mono (by simp)))
  clear hb hk1
  go_wp2_with fail
  refine (HBB.out _ HB.out).mono ?_
  rintro e w2 ⟨rfl, hb⟩
  clear y0 y1 y2
  have hk2 := (hb.block w.heap.size hs1).trans HK1.out
  obtain ⟨y0, y1, y2⟩ := box_cells hk2
  have HB2 := Lib.hid (HB.out.trans (hb.mono HB.out.size))
  clear hb hk2
  go_wp2_with fail
  refine (HGG.out _ HB2.out).mono ?_
  rintro e w3 ⟨rfl, hb⟩
  have HB3 := Lib.hid (HB2.out.trans (hb.mono HB2.out.size))
  clear hb
  go_wp2_with fail
  go_ret2
  exact ⟨rfl, HB3.out⟩
theorem pr_all (d off c : Nat) (ts : List Tm) (hl : ts.length ≤ 60) (hc : ts.length ≤ c) : ∀ f : Fm, PrAt d off c ts f
  | .lf t => pr_leaf d off c ts hl hc t
  | .un t a => pr_un d off c ts hl hc t a (pr_all d off c ts hl hc a)
  | .bi t a b => pr_bi d off c ts hl hc t a b (pr_all d off c ts hl hc a) (pr_all d off c ts hl hc b)
  | .tr t a b g => pr_tr d off c ts hl hc t a b g (pr_all d off c ts hl hc a) (pr_all d off c ts hl hc b) (pr_all d off c ts hl hc g)
/-- The reference's Print. -/
theorem printR_bad (v : Value) (ts : List Tm) (w : World) (hT : TermsIn w v ts) (hl : ts.length ≤ 9223372036854775807) (HV : Hid (false = Pl.validB ts)) :
    Calls Tryz.prog 14 #[v] w fun e w' => e = .returned (.tuple #[.string (mkS []), .int .i64 150]) ∧ Below w.heap.size w w' := by
  have HT := Lib.hid hT
  obtain ⟨a, c, rfl, _⟩ := hT
  go_enter Tryz.func14, Tryz.ntmps14
  go_wp2_with fail
  refine (validR_any _ ts false _ HT.out hl HV).mono ?_
  rintro e w1 ⟨rfl, hb⟩
  have HB := Lib.hid hb
  clear hb
  go_wp2_with fail
  go_ret2
  exact ⟨rfl, HB.out⟩
set_option maxRecDepth 100000 in
set_option maxHeartbeats 1000000 in
theorem printR_ok (v : Value) (f : Fm) (w : World) (hT : TermsIn w v f.flat) (hwf : f.wf) (hl : f.flat.length ≤ 60) (hd : f.depth ≤ 12) :
    Calls Tryz.prog 14 #[v] w fun e w' => e = .returned (.tuple #[.string (mkS (Pl.text f)), .int .i64 0]) ∧ Below w.heap.size w w' := by
  have HT := Lib.hid hT
  obtain ⟨a, c, rfl, hc, _, hr⟩ := hT
  obtain ⟨b, off, rfl, hrow⟩ := hr (Fm.flat_ne f)
  have hb0 := hrow.lt (Fm.flat_ne f)
  have HR := Lib.hid hrow
  have HW := Lib.hid hwf
  have HV : Hid (true = Pl.validB f.flat) := Lib.hid (Pl.valid_of hwf hd hl).symm
  obtain ⟨T, hTx⟩ : ∃ T, T = mkS (Pl.text f) := ⟨_, rfl⟩
  have HTX := Lib.hid hTx
  rw [← hTx]
  clear hr hrow hwf hTx
  go_enter Tryz.func14, Tryz.ntmps14
  go_wp2_with fail
  refine (validR_any _ f.flat true _ HT.out (by omega) HV).mono ?_
  rintro e w1 ⟨rfl, hb⟩
  have HB := Lib.hid hb
  have HR1 := Lib.hid (HR.out.below hb hb0)
  have hb1 : b < w1.heap.size := Nat.lt_of_lt_of_le hb0 hb.size
  clear hb
  go_wp2_with fail
  refine (pr_all b off c f.flat hl hc f [] [] 0 _ HW.out (by simp) rfl HR1.out hb1).mono ?_
  rintro e w2 ⟨rfl, hb⟩
  rw [← HTX.out]
  have HB2 := Lib.hid (HB.out.trans (hb.mono HB.out.size))
  clear hb
  go_wp2_with fail
  go_ret2
  exact ⟨rfl, HB2.out⟩
end Go.Proofs.YtchoelgkcnnnkaaGreatDoor
