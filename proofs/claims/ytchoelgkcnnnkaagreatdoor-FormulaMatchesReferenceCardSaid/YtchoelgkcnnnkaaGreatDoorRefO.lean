/- PLAIN LAWS: the reference's reader keeps too great a number as one more than the greatest: no list of terms is valid with the one that is not with the other. · WALKS of the reference's reader: a digit, a number, a word. · WALK of the reference's reader: some: formulas after words, and the operator between two of them. · WALKS of the reference's reader: parse, by the byte that it meets. · CONTRACTS of the reference's reader: parse at any place, and Parse. -/
import Derived.Test.YtchoelgkcnnnkaaGreatDoorParseD
import Derived.Test.YtchoelgkcnnnkaaGreatDoorRefE
import Derived.BigQuiet
import Derived.Deep.QuietTactic
import Derived.Test.YtchoelgkcnnnkaaGreatDoorGrD
import Derived.Test.YtchoelgkcnnnkaaGreatDoorTypeE
set_option linter.all false
namespace Go.Proofs.YtchoelgkcnnnkaaGreatDoor
open Go.RowKit
namespace Pl
def clampT (t : Tm) : Tm := if t.k = 1 then ⟨1, min t.n 1000000000001, t.s⟩ else t
theorem clampT_k (t : Tm) : (clampT t).k = t.k := by
  unfold clampT
  split
  · next h => exact h.symm
  · rfl
theorem clampT_s (t : Tm) : (clampT t).s = t.s := by
  unfold clampT
  split <;> rfl
theorem clampT_formed (t : Tm) : formed (clampT t) = formed t := by
  obtain ⟨k, n, s⟩ := t
  unfold clampT
  by_cases h : k = 1
  · subst h
    simp only [if_true, formed]
    congr 1
    rw [Bool.eq_iff_iff]
    simp only [Bool.and_eq_true, decide_eq_true_eq]
    omega
  · rw [if_neg h]
theorem clampT_of {t : Tm} (h : formed t = true) : clampT t = t := by
  obtain ⟨k, n, s⟩ := t
  unfold clampT
  by_cases hk : k = 1
  · subst hk
    simp only [formed, if_true, Bool.and_eq_true, decide_eq_true_eq] at h
    have : min n 1000000000001 = n := by omega
    simp [this]
  · rw [if_neg hk]
theorem restN_clamp {rd : List Tm → Option (List Tm)} (h : ∀ ts, rd (ts.map clampT) = (rd ts).map (List.map clampT)) : ∀ (n : Nat) (ts : List Tm), restN rd n (ts.map clampT) = (restN rd n ts).map (List.map clampT)
  | 0, ts => rfl
  | n + 1, ts => by
    show (rd (ts.map clampT)).bind (restN rd n) = ((rd ts).bind (restN rd n)).map (List.map clampT)
    rw [h]
    cases rd ts with
    | none => rfl
    | some r => exact restN_clamp h n r
theorem rest_clamp : ∀ (d : Nat) (ts : List Tm), rest d (ts.map clampT) = (rest d ts).map (List.map clampT)
  | 0, ts => rfl
  | d + 1, [] => rfl
  | d + 1, t :: r => by
    show (if formed (clampT t) then restN (rest d) (operandsOf (clampT t).k).toNat (r.map clampT) else none) = (if formed t then restN (rest d) (operandsOf t.k).toNat r else none).map (List.map clampT)
    rw [clampT_formed, clampT_k]
    cases formed t with
    | false => rfl
    | true => simpa using restN_clamp (rest_clamp d) _ r
theorem validB_clamp (ts : List Tm) : validB (ts.map clampT) = validB ts := by
  unfold validB whole12
  rw [rest_clamp, List.length_map]
  congr 1
  cases rest 12 ts with
  | none => rfl
  | some l => cases l <;> rfl
theorem clamp_valid {ts : List Tm} (h : validB ts = true) : ts.map clampT = ts := by
  obtain ⟨_, f, hw, _, rfl⟩ := (validB_iff ts).1 h
  have : f.flat.map clampT = f.flat.map id := List.map_congr_left fun t ht => clampT_of (wf_formed f hw t ht)
  rw [this, List.map_id]
/-- The number that the reference keeps, digit by digit. -/
def numR (l : List UInt8) : Int := min (valFrom 0 l : Int) 1000000000001
theorem numR_snoc (l : List UInt8) (c : UInt8) (hc : 48 ≤ c.toNat) : numR (l ++ [c]) = min (10 * numR l + ((c.toNat : Int) - 48)) 1000000000001 := by
  unfold numR
  rw [valFrom_snoc]
  omega
theorem numR_num {l : List UInt8} (hne : l ≠ []) (hd : Digs l) : numR l = min (numVal l) 1000000000001 := by
  unfold numR numVal
  rw [atoi_digits l hne hd]
  by_cases h : valFrom 0 l < 9223372036854775808
  · rw [if_pos h]
  · rw [if_neg h]
    show min (valFrom 0 l : Int) 1000000000001 = min 1000000000001 1000000000001
    omega
/-- What `some` of the reference comes to: the kind and the terms of the operands, and the place behind them; or the first wrong place. -/
def someR (s : ByteArray) (n : Nat) : List ByteArray → Int → Nat → List Tm → Option (Int × List Tm) × Nat
  | [], k, p, acc => (some (k, acc), p)
  | w :: ws, k, p, acc =>
    if w.size = 0 then
      if kindOf (peekB s p) = 0 then (none, p)
      else match rd s n (p + 1) with
        | .ok f q => someR s n ws (kindOf (peekB s p)) q (acc ++ f.flat.map clampT)
        | .bad q => (none, q)
    else match wantFail s w.data.toList p with
      | some q => (none, q)
      | none => match rd s n (p + w.size) with
        | .ok f q => someR s n ws k q (acc ++ f.flat.map clampT)
        | .bad q => (none, q)
def someEnd (s : ByteArray) (last : ByteArray) : Option (Int × List Tm) × Nat → Option (List Tm) × Nat
  | (none, q) => (none, q)
  | (some (k, ts), q) => match wantFail s last.data.toList q with
    | some q' => (none, q')
    | none => (some (mk0 k :: ts), q + last.size)
def someAll (s : ByteArray) (n : Nat) (ws : List ByteArray) (last : ByteArray) (k : Int) (p : Nat) : Option (List Tm) × Nat := someEnd s last (someR s n ws k p [])
def rdT : Rd → Option (List Tm) × Nat
  | .ok f q => (some (f.flat.map clampT), q)
  | .bad q => (none, q)
theorem clamp_mk0 {k : Int} (h : k ≠ 1) : clampT (mk0 k) = mk0 k := by
  unfold clampT mk0
  rw [if_neg h]
theorem want_byte {s : ByteArray} {p : Nat} {c : UInt8} (hp : p < s.size) (h : peekB s p = c) : wantFail s [c] p = none := by
  unfold wantFail
  rw [if_pos ⟨hp, h⟩]; rfl
theorem peek_of {s : ByteArray} {p b : Nat} {c : UInt8} (h : (peekB s p).toNat = b) (hc : c.toNat = b) : peekB s p = c := UInt8.toNat_inj.1 (h.trans hc.symm)
theorem some_un {s : ByteArray} {p n : Nat} (c : UInt8) (k : Int) (hp : p < s.size) (hc : peekB s p = c) (hk : k ≠ 1) (hrd : rd s (n + 1) p = (rd s n (p + 1)).then fun a q => .ok (.un (mk0 k) a) q) :
    someAll s n [⟨#[c]⟩] ⟨#[]⟩ k p = rdT (rd s (n + 1) p) := by
  rw [hrd]
  have h1 : someR s n [⟨#[c]⟩] k p [] = (match wantFail s [c] p with
      | some q => (none, q)
      | none => match rd s n (p + 1) with
        | .ok f q => (some (k, [] ++ f.flat.map clampT), q)
        | .bad q => (none, q)) := rfl
  unfold someAll
  rw [h1, want_byte hp hc]
  cases rd s n (p + 1) with
  | bad q => rfl
  | ok f q =>
    show (some (mk0 k :: ([] ++ f.flat.map clampT)), q + 0) = (some ((mk0 k :: f.flat).map clampT), q)
    rw [List.map_cons, clamp_mk0 hk]; rfl
theorem some_bi {s : ByteArray} {p n : Nat} (hp : p < s.size) (hc : peekB s p = 40)
    (hrd : rd s (n + 1) p = (rd s n (p + 1)).then fun a q =>
      if kindOf (peekB s q) = 0 then .bad q
      else (rd s n (q + 1)).then fun b q2 => word s [41] q2 (.ok (.bi (mk0 (kindOf (peekB s q))) a b) (q2 + 1))) :
    someAll s n [⟨#[40]⟩, ⟨#[]⟩] ⟨#[41]⟩ 0 p = rdT (rd s (n + 1) p) := by
  rw [hrd]
  have h1 : someR s n [⟨#[40]⟩, ⟨#[]⟩] 0 p [] = (match wantFail s [40] p with
      | some q => (none, q)
      | none => match rd s n (p + 1) with
        | .ok f q => (if kindOf (peekB s q) = 0 then (none, q)
          else match rd s n (q + 1) with
            | .ok g q2 => (some (kindOf (peekB s q), [] ++ f.flat.map clampT ++ g.flat.map clampT), q2)
            | .bad q2 => (none, q2))
        | .bad q => (none, q)) := rfl
  unfold someAll
  rw [h1, want_byte hp hc]
  cases rd s n (p + 1) with
  | bad q => rfl
  | ok f q =>
    dsimp only
    by_cases hk : kindOf (peekB s q) = 0
    · rw [if_pos hk]
      show (none, q) = rdT (if kindOf (peekB s q) = 0 then .bad q else _)
      rw [if_pos hk]; rfl
    · rw [if_neg hk]
      show _ = rdT (if kindOf (peekB s q) = 0 then .bad q else _)
      rw [if_neg hk]
      have h2 := kindOf_two _ hk
      have hk1 : kindOf (peekB s q) ≠ 1 := by rcases kinds2 h2 with h | h | h | h | h | h | h | h | h <;> omega
      cases rd s n (q + 1) with
      | bad q2 => rfl
      | ok g q2 =>
        show someEnd s ⟨#[41]⟩ (some (kindOf (peekB s q), [] ++ f.flat.map clampT ++ g.flat.map clampT), q2) = rdT (word s [41] q2 (.ok (.bi (mk0 (kindOf (peekB s q))) f g) (q2 + 1)))
        have h3 : someEnd s ⟨#[41]⟩ (some (kindOf (peekB s q), [] ++ f.flat.map clampT ++ g.flat.map clampT), q2) = (match wantFail s [41] q2 with
          | some q' => (none, q')
          | none => (some (mk0 (kindOf (peekB s q)) :: ([] ++ f.flat.map clampT ++ g.flat.map clampT)), q2 + 1)) := rfl
        rw [h3]
        unfold word
        cases wantFail s [41] q2 with
        | some q' => rfl
        | none =>
          show (some (mk0 (kindOf (peekB s q)) :: ([] ++ f.flat.map clampT ++ g.flat.map clampT)), q2 + 1) = (some ((mk0 (kindOf (peekB s q)) :: (f.flat ++ g.flat)).map clampT), q2 + 1)
          rw [List.map_cons, clamp_mk0 hk1, List.map_append]; rfl
theorem some_tr {s : ByteArray} {p n : Nat}
    (hrd : rd s (n + 1) p = word s [63, 40] p ((rd s n (p + 2)).then fun a q => word s [44] q ((rd s n (q + 1)).then fun b q2 => word s [44] q2 ((rd s n (q2 + 1)).then fun c q3 =>
      word s [41] q3 (.ok (.tr (mk0 17) a b c) (q3 + 1)))))) :
    someAll s n [⟨#[63, 40]⟩, ⟨#[44]⟩, ⟨#[44]⟩] ⟨#[41]⟩ 17 p = rdT (rd s (n + 1) p) := by
  rw [hrd]
  have h1 : someR s n [⟨#[63, 40]⟩, ⟨#[44]⟩, ⟨#[44]⟩] 17 p [] = (match wantFail s [63, 40] p with
      | some q => (none, q)
      | none => match rd s n (p + 2) with
        | .ok f q => (match wantFail s [44] q with
          | some q => (none, q)
          | none => match rd s n (q + 1) with
            | .ok g q2 => (match wantFail s [44] q2 with
              | some q => (none, q)
              | none => match rd s n (q2 + 1) with
                | .ok h q3 => (some (17, [] ++ f.flat.map clampT ++ g.flat.map clampT ++ h.flat.map clampT), q3)
                | .bad q => (none, q))
            | .bad q => (none, q))
        | .bad q => (none, q)) := rfl
  unfold someAll
  rw [h1]
  unfold word
  cases wantFail s [63, 40] p with
  | some q => rfl
  | none =>
  dsimp only
  cases rd s n (p + 2) with
  | bad q => rfl
  | ok f q =>
  dsimp only [Rd.then]
  cases wantFail s [44] q with
  | some q => rfl
  | none =>
  dsimp only
  cases rd s n (q + 1) with
  | bad q => rfl
  | ok g q2 =>
  dsimp only
  cases wantFail s [44] q2 with
  | some q => rfl
  | none =>
  dsimp only
  cases rd s n (q2 + 1) with
  | bad q => rfl
  | ok h q3 =>
  dsimp only
  have h3 : someEnd s ⟨#[41]⟩ (some (17, [] ++ f.flat.map clampT ++ g.flat.map clampT ++ h.flat.map clampT), q3) = (match wantFail s [41] q3 with
    | some q' => (none, q')
    | none => (some (mk0 17 :: ([] ++ f.flat.map clampT ++ g.flat.map clampT ++ h.flat.map clampT)), q3 + 1)) := rfl
  rw [h3]
  cases wantFail s [41] q3 with
  | some q' => rfl
  | none =>
    show (some (mk0 17 :: ([] ++ f.flat.map clampT ++ g.flat.map clampT ++ h.flat.map clampT)), q3 + 1) = (some ((mk0 17 :: (f.flat ++ (g.flat ++ h.flat))).map clampT), q3 + 1)
    rw [List.map_cons, clamp_mk0 (by decide), List.map_append, List.map_append]; simp
end Pl
end Go.Proofs.YtchoelgkcnnnkaaGreatDoor
set_option linter.all false
namespace Go.Proofs.YtchoelgkcnnnkaaGreatDoor
open Go.RowKit
set_option maxRecDepth 100000 in
set_option maxHeartbeats 1000000 in
/-- digit: is the byte at a place a digit? -/
theorem digR_any (s : ByteArray) (p : Nat) (r : Bool) (w : World) (hs : s.size ≤ 9223372036854775807) (HR : Hid (r = Pl.digAt 48 s p)) :
    Calls Tryz.prog 88 #[.string s, .int .i64 p] w fun e w' => e = .returned (.bool r) ∧ w = w' := by
  by_cases hp : p < s.size
  · have hpk : Pl.peekB s p = s[p] := dif_pos hp
    have hr : Hid (r = (decide ((48 : Int) ≤ (s[p].toNat : Int)) && decide ((s[p].toNat : Int) ≤ 57))) := Lib.hid (by rw [HR.out, Pl.digAt, hpk])
    clear HR hpk
    by_cases h1 : (48 : Int) ≤ (s[p].toNat : Int)
    · by_cases h2 : (s[p].toNat : Int) ≤ 57
      · go_enter Tryz.func88, Tryz.ntmps88
        go_wp2_with fail
        go_ret
        exact ⟨ret_bool (by rw [hr.out]; simp [h1, h2]), rfl⟩
      · go_enter Tryz.func88, Tryz.ntmps88
        go_wp2_with fail
        go_ret
        exact ⟨ret_bool (by rw [hr.out]; simp [h1, h2]), rfl⟩
    · go_enter Tryz.func88, Tryz.ntmps88
      go_wp2_with fail
      go_ret
      exact ⟨ret_bool (by rw [hr.out]; simp; omega), rfl⟩
  · have hr : r = false := by rw [HR.out, Pl.digAt, Pl.peekB, dif_neg hp]; rfl
    subst hr
    clear HR
    go_enter Tryz.func88, Tryz.ntmps88
    go_wp2_with fail
    go_ret
    exact ⟨rfl, rfl⟩
/-- What a word of the reference comes to. -/
def WordPost (o : Option Nat) (q : Nat) (w : World) (e : Ending) (w' : World) : Prop :=
  (match o with | none => e = .returned (.tuple #[.int .i64 (q : Int), .bool true]) | some k => e = .returned (.tuple #[.int .i64 (k : Int), .bool false])) ∧ Below w.heap.size w w'
theorem Pl.wantFail_at (s : ByteArray) : ∀ (l : List UInt8) (p k : Nat), k < l.length → (∀ j (hj : j < k), ∃ h : p + j < s.size, s[p + j]'h = l[j]!) → (s.size ≤ p + k ∨ ∃ h : p + k < s.size, s[p + k]'h ≠ l[k]!) → Pl.wantFail s l p = some (p + k)
  | [], p, k, hk, _, _ => by simp at hk
  | c :: r, p, 0, hk, _, hb => by
    unfold Pl.wantFail
    rw [if_neg, Nat.add_zero]
    rintro ⟨h1, h2⟩
    rcases hb with hb | ⟨h, hb⟩
    · omega
    · unfold Pl.peekB at h2
      rw [dif_pos h1] at h2
      exact hb (by simpa using h2)
  | c :: r, p, k + 1, hk, hm, hb => by
    obtain ⟨h0, h1⟩ := hm 0 (by omega)
    unfold Pl.wantFail
    have hc : p < s.size ∧ Pl.peekB s p = c := ⟨by simpa using h0, by unfold Pl.peekB; rw [dif_pos (by simpa using h0)]; simpa using h1⟩
    rw [if_pos hc, Pl.wantFail_at s r (p + 1) k (by simpa using hk)]
    · congr 1; omega
    · intro j hj
      obtain ⟨h, e⟩ := hm (j + 1) (by omega)
      refine ⟨by omega, ?_⟩
      have : p + 1 + j = p + (j + 1) := by omega
      simp only [this]
      rw [e]; simp
    · rcases hb with hb | ⟨h, hb⟩
      · left; omega
      · right
        refine ⟨by omega, ?_⟩
        have : p + 1 + k = p + (k + 1) := by omega
        simp only [this]
        intro e; apply hb; rw [e]; simp
theorem Pl.wantFail_all (s : ByteArray) : ∀ (l : List UInt8) (p : Nat), (∀ j (hj : j < l.length), ∃ h : p + j < s.size, s[p + j]'h = l[j]!) → Pl.wantFail s l p = none
  | [], p, _ => rfl
  | c :: r, p, hm => by
    obtain ⟨h0, h1⟩ := hm 0 (by simp)
    unfold Pl.wantFail
    have hc : p < s.size ∧ Pl.peekB s p = c := ⟨by simpa using h0, by unfold Pl.peekB; rw [dif_pos (by simpa using h0)]; simpa using h1⟩
    rw [if_pos hc, Pl.wantFail_all s r (p + 1)]
    intro j hj
    obtain ⟨h, e⟩ := hm (j + 1) (by simp; omega)
    refine ⟨by omega, ?_⟩
    have : p + 1 + j = p + (j + 1) := by omega
    simp only [this]
    rw [e]; simp
set_option maxRecDepth 100000 in
set_option maxHeartbeats 2000000 in
/-- word: a word that must be there. -/
theorem wordR_any (s T : ByteArray) (p : Nat) (o : Option Nat) (w : World) (hs : s.size ≤ 100000000) (hp : p ≤ s.size) (hT : T.size ≤ 100) (HO : Hid (o = Pl.wantFail s T.data.toList p)) :
    Calls Tryz.prog 90 #[.string s, .int .i64 p, .string T] w (WordPost o (p + T.size) w) := by
  go_enter Tryz.func90, Tryz.ntmps90
  go_wp2_with fail
  go_loopw [8] (fun i wr => ∃ k : Nat, k ≤ T.size ∧ i = .int .i64 k ∧ Below w.heap.size w wr ∧ ∀ j (hj : j < k), ∃ h : p + j < s.size, s[p + j]'h = T.data.toList[j]!) (fun i _ => T.size - (intOf i).toNat)
  case atStart => exact ⟨0, Nat.zero_le _, rfl, Below.refl _ _, fun j hj => by omega⟩
  case round =>
    obtain ⟨k, hk, rfl, hb, hm⟩ := hrel
    have HM := Lib.hid hm
    have HB := Lib.hid hb
    clear hm hb
    by_cases hlt : k < T.size
    · have hg : T.data.toList[k]! = T[k] := by
        rw [List.getElem!_eq_getElem?_getD, List.getElem?_eq_getElem (by simpa using hlt)]; rfl
      have HG := Lib.hid hg
      clear hg
      by_cases hin : p + k < s.size
      · obtain ⟨x, hx⟩ : ∃ x, x = p + k := ⟨_, rfl⟩
        have hwr : IntKind.i64.wrap ((p : Int) + (k : Int)) = (x : Int) := by rw [IntKind.wrap_i64]; omega
        have e1 : decide ((s.size : Int) ≤ (p : Int) + (k : Int)) = false := by simp; omega
        have hinx : x < s.size := by omega
        have HXX := Lib.hid hx
        have hsx : s[x]'hinx = s[p + k]'hin := by subst hx; rfl
        by_cases heq : s[p + k] = T[k]
        · have h5 : (((s[x]'hinx).toNat : Int) != ((T[k]'hlt).toNat : Int)) = false := by rw [hsx, heq]; simp
          have HE := Lib.hid heq
          clear heq hsx hx
          go_wp2_with fail
          go_quiet (fail)
          go_wp2
          go_roundw
          case rel => exact ⟨k + 1, by omega, by go_num, below_drewN' HB.out _, fun j hj => by
            by_cases e : j = k
            · subst e; exact ⟨by have := HXX.out; omega, by rw [HE.out, HG.out]⟩
            · exact HM.out j (by omega)⟩
          case measure => simp [intOf]; omega
        · have h5 : (((s[x]'hinx).toNat : Int) != ((T[k]'hlt).toNat : Int)) = true := by
            rw [bne_iff_ne]; intro e; rw [hsx] at e; exact heq (UInt8.toNat_inj.1 (Int.ofNat_inj.1 e))
          have HW : Hid (o = some x) := Lib.hid (by rw [HO.out, hx]; exact Pl.wantFail_at s _ p k (by simpa using hlt) HM.out (.inr ⟨hin, by rw [HG.out]; exact heq⟩))
          clear heq hsx hx
          go_wp2_with fail
          go_quiet (fail)
          go_wp2_with fail
          go_ret2
          rw [HW.out]
          exact ⟨rfl, below_drewN' HB.out _⟩
      · obtain hps : s.size = p + k := by
          have h0 : p + k ≤ s.size := by
            rcases Nat.eq_zero_or_pos k with e | e
            · omega
            · obtain ⟨h, _⟩ := HM.out (k - 1) (by omega)
              omega
          omega
        have HW : Hid (o = some (p + k)) := Lib.hid (by rw [HO.out]; exact Pl.wantFail_at s _ p k (by simpa using hlt) HM.out (.inl (by omega)))
        go_wp2_with fail
        go_ret2
        rw [HW.out]
        exact ⟨rfl, HB.out⟩
    · obtain rfl : k = T.size := by omega
      go_wp2_with fail
      go_ret2
      refine ⟨?_, HB.out⟩
      rw [HO.out, Pl.wantFail_all s _ p (fun j hj => HM.out j (by simpa using hj))]
      rfl
theorem Pl.ext_snoc {s : ByteArray} {p k : Nat} (hp : p ≤ k) (hk : k < s.size) : (s.extract p (k + 1)).data.toList = (s.extract p k).data.toList ++ [Pl.peekB s k] := by
  refine List.ext_getElem? fun i => ?_
  rcases Nat.lt_trichotomy i (k - p) with h | h | h
  · rw [List.getElem?_append_left (by rw [Pl.ext_len (by omega)]; exact h), Pl.ext_get i (by omega) (by omega), Pl.ext_get i h (by omega)]
  · rw [List.getElem?_append_right (by rw [Pl.ext_len (by omega)]; omega), Pl.ext_get i (by omega) (by omega), Pl.ext_len (by omega), h, Nat.sub_self]
    show some (Pl.peekB s (p + (k - p))) = some (Pl.peekB s k)
    rw [show p + (k - p) = k by omega]
  · rw [List.getElem?_eq_none (by rw [Pl.ext_len (by omega)]; omega), List.getElem?_eq_none (by rw [List.length_append, Pl.ext_len (by omega)]; simp; omega)]
theorem two_new (w : World) (o1 o2 : Obj) : ((w.alloc o1).alloc o2).heap[w.heap.size + 1]? = some o2 ∧ ((w.alloc o1).alloc o2).heap[w.heap.size]? = some o1 := by
  constructor
  · show ((w.heap.push _).push _)[w.heap.size + 1]? = _
    rw [Array.getElem?_push, if_pos (by simp)]
  · show ((w.heap.push _).push _)[w.heap.size]? = _
    rw [Array.getElem?_push, if_neg (by simp), Array.getElem?_push, if_pos rfl]
/-- The box in which the number is kept. -/
structure NumAt (w wr : World) (x : Int) : Prop where
  box : wr.heap[w.heap.size + 1]? = some (.cells #[.int .i64 1, .int .i64 x, .string ⟨#[]⟩] 24 (0, 0))
  res : wr.heap[w.heap.size]? = some (.cells #[.int .i64 0, .int .i64 0, .string ⟨#[]⟩] 24 (0, 0))
  bel : Below w.heap.size w wr
set_option maxRecDepth 100000 in
set_option maxHeartbeats 4000000 in
/-- number: reads a number. -/
theorem numberR_any (s : ByteArray) (p E : Nat) (x : Int) (w : World) (hs : s.size ≤ 100000000) (hp : p < s.size) (hd : Hid (Pl.digAt 48 s p = true)) (HE : Hid (E = Pl.numEndOf s p)) (HX : Hid (x = Pl.numR (s.extract p E).data.toList)) :
    Calls Tryz.prog 89 #[.string s, .int .i64 p] w fun e w' => e = .returned (.tuple #[Tm.agg ⟨1, x, ⟨#[]⟩⟩, .int .i64 E]) ∧ Below w.heap.size w w' := by
  have hpk : Pl.peekB s p = s[p] := dif_pos hp
  by_cases h0 : (s[p].toNat : Int) = 48
  · have h5 : ((s[p].toNat : Int) == 48) = true := by simpa using h0
    have hE : E = p + 1 := by rw [HE.out, Pl.numEndOf, if_pos (by rw [hpk]; exact UInt8.toNat_inj.1 (by simpa using (by omega : s[p].toNat = 48)))]
    subst hE
    have hx : x = 0 := by
      rw [HX.out, Pl.ext_snoc (Nat.le_refl _) hp, Pl.numR_snoc _ _ (by rw [hpk]; omega), hpk, h0]
      have : (s.extract p p).data.toList = [] := List.length_eq_zero_iff.1 (by rw [Pl.ext_len (by omega)]; omega)
      rw [this]; rfl
    subst hx
    clear HX HE hd hpk
    go_enter Tryz.func89, Tryz.ntmps89
    go_wp2_with fail
    exact bodyPost_ret (v := .tuple #[Tm.agg ⟨1, 0, ⟨#[]⟩⟩, .int .i64 (p + 1 : Nat)]) (by simp [results, Tryz.results89, go_sem, Tm.agg]) rfl ⟨rfl, (below1 w _).alloc (by simp) _⟩
  · have hE : E = Pl.numEnd s s.size (p + 1) := by rw [HE.out, Pl.numEndOf, if_neg (by rw [hpk]; intro e; apply h0; rw [e]; rfl)]
    have HE2 := Lib.hid hE
    have h5 : ((s[p].toNat : Int) == 48) = false := by simpa using h0
    clear HE hE hpk h0
    go_enter Tryz.func89, Tryz.ntmps89
    go_wp2_with fail
    go_loopw [1] (fun s1 wr => ∃ (k : Nat) (y : Int), p ≤ k ∧ k ≤ s.size ∧ s1 = .int .i64 k ∧ NumAt w wr y ∧ y = Pl.numR (s.extract p k).data.toList ∧ (k = p ∨ (p < k ∧ E = Pl.numEnd s s.size k))) (fun s1 _ => s.size - (intOf s1).toNat)
    case atStart =>
      refine ⟨p, 0, Nat.le_refl _, by omega, rfl, ?_, ?_, .inl rfl⟩
      · exact ⟨(two_new w _ _).1, (two_new w _ _).2, (below1 w _).alloc (by simp) _⟩
      · have : (s.extract p p).data.toList = [] := List.length_eq_zero_iff.1 (by rw [Pl.ext_len (by omega)]; omega)
        rw [this]; rfl
    case round =>
      obtain ⟨k, y, hpk, hks, rfl, hN, hy, hk⟩ := hrel
      have HN := Lib.hid hN
      have HY := Lib.hid hy
      have HKK := Lib.hid hk
      obtain ⟨b0, b1, b2⟩ := box_cells hN.box
      obtain ⟨r0, r1, r2⟩ := box_cells hN.res
      have f1 := Lib.frozen_of_heap hN.box 1
      have hy2 : 0 ≤ y ∧ y ≤ 1000000000001 := by rw [hy]; unfold Pl.numR; omega
      clear hN hy hk
      obtain ⟨d, hd1⟩ : ∃ d, d = Pl.digAt 48 s k := ⟨_, rfl⟩
      have HD := Lib.hid hd1
      clear hd1
      go_wp2_with fail
      refine (digR_any s k d _ (by omega) HD).mono ?_
      rintro e w2 ⟨rfl, rfl⟩
      cases d with
      | true =>
        have hlt := Pl.dig_lt HD.out.symm (by decide)
        have hq : Pl.peekB s k = s[k] := dif_pos hlt
        have hdg := Pl.digAt_digs HD.out.symm
        rw [hq] at hdg
        obtain ⟨g0, g1⟩ := hdg
        have hw8 : IntKind.u8.wrap ((s[k].toNat : Int) - 48) = (s[k].toNat : Int) - 48 := by rw [IntKind.wrap_u8]; omega
        go_wp2_with fail
        go_region
        all_goals
          go_wp2_with fail
          go_roundw
          case rel =>
            refine ⟨k + 1, _, by omega, by omega, by go_num, ⟨Joins.block_setCell HN.out.box _, (Below.heap_setCell _ _ _ _ (by simp)).trans HN.out.res, (HN.out.bel.setCell (p := ⟨w.heap.size + 1, 1, none⟩) (by simp) _).drew⟩, ?_, .inr ⟨by omega, ?_⟩⟩
            · rw [Pl.ext_snoc hpk hlt, Pl.numR_snoc _ _ (by rw [hq]; omega), hq, ← HY.out]
            · rcases HKK.out with h | ⟨_, h⟩
              · subst h; exact HE2.out
              · rw [h, Pl.numEnd_step HD.out.symm]
          case measure => simp [intOf]; omega
      | false =>
        have hke : k = E := by
          rcases HKK.out with h | ⟨_, h⟩
          · subst h; rw [hd.out] at HD; cases HD.out
          · rw [h, Pl.numEnd_stop HD.out.symm]
        subst hke
        have z0 := Lib.frozen_of_heap HN.out.res 0
        have z1 := Lib.frozen_of_heap HN.out.res 1
        have z2 := Lib.frozen_of_heap HN.out.res 2
        have HYX : Hid (y = x) := Lib.hid (by rw [HY.out, HX.out])
        clear f1
        go_wp2_with fail
        obtain ⟨e0, e1, e2⟩ := set3 r0 r1 r2 (.int .i64 1) (.int .i64 y) (.string ⟨#[]⟩)
        exact bodyPost_ret (v := .tuple #[Tm.agg ⟨1, y, ⟨#[]⟩⟩, .int .i64 k]) (by simp [results, Tryz.results89, go_sem, Tm.agg, e0, e1, e2]) rfl ⟨by rw [HYX.out], ((HN.out.bel.setCell (p := ⟨w.heap.size, 0, none⟩) (Nat.le_refl _) _).setCell (p := ⟨w.heap.size, 1, none⟩) (Nat.le_refl _) _).setCell (p := ⟨w.heap.size, 2, none⟩) (Nat.le_refl _) _⟩
end Go.Proofs.YtchoelgkcnnnkaaGreatDoor
set_option linter.all false
namespace Go.Proofs.YtchoelgkcnnnkaaGreatDoor
open Go.RowKit
namespace Pl
theorem kindOf_iff (c : UInt8) : (kindOf c = 8 ↔ c.toNat = 43) ∧ (kindOf c = 9 ↔ c.toNat = 45) ∧ (kindOf c = 10 ↔ c.toNat = 42) ∧ (kindOf c = 11 ↔ c.toNat = 47) ∧ (kindOf c = 12 ↔ c.toNat = 37) ∧ (kindOf c = 13 ↔ c.toNat = 61) ∧ (kindOf c = 14 ↔ c.toNat = 60) ∧ (kindOf c = 15 ↔ c.toNat = 38) ∧ (kindOf c = 16 ↔ c.toNat = 124) ∧ (0 ≤ kindOf c ∧ kindOf c ≤ 16) ∧ (kindOf c = 0 ∨ 8 ≤ kindOf c) := by
  unfold kindOf
  by_cases h0 : c.toNat = 43
  · rw [if_pos h0]; omega
  rw [if_neg h0]
  by_cases h1 : c.toNat = 45
  · rw [if_pos h1]; omega
  rw [if_neg h1]
  by_cases h2 : c.toNat = 42
  · rw [if_pos h2]; omega
  rw [if_neg h2]
  by_cases h3 : c.toNat = 47
  · rw [if_pos h3]; omega
  rw [if_neg h3]
  by_cases h4 : c.toNat = 37
  · rw [if_pos h4]; omega
  rw [if_neg h4]
  by_cases h5 : c.toNat = 61
  · rw [if_pos h5]; omega
  rw [if_neg h5]
  by_cases h6 : c.toNat = 60
  · rw [if_pos h6]; omega
  rw [if_neg h6]
  by_cases h7 : c.toNat = 38
  · rw [if_pos h7]; omega
  rw [if_neg h7]
  by_cases h8 : c.toNat = 124
  · rw [if_pos h8]; omega
  rw [if_neg h8]
  omega
end Pl
def Pl.orBad {α : Type} (o : Option Nat) (r : Option α × Nat) : Option α × Nat := match o with | some q => (none, q) | none => r
/-- What parse and some of the reference come to. -/
def PrPost (r : Option (List Tm) × Nat) (w : World) (e : Ending) (w' : World) : Prop :=
  (match r.1 with
    | some ts => ∃ v, e = .returned (.tuple #[v, .int .i64 (r.2 : Int), .bool true]) ∧ TermsIn w' v ts
    | none => ∃ v, e = .returned (.tuple #[v, .int .i64 (r.2 : Int), .bool false])) ∧ Below w.heap.size w w'
def ParseRAt (n : Nat) : Prop :=
  ∀ (s : ByteArray) (p : Nat) (w : World), s.size ≤ 100000000 → p ≤ s.size → s.size < p + n → Calls Tryz.prog 57 #[.string s, .int .i64 p] w (PrPost (Pl.rdT (Pl.rd s n p)) w)
theorem pr_bad {q : Nat} {w w' : World} {e : Ending} (h : PrPost (none, q) w e w') : (∃ v, e = .returned (.tuple #[v, .int .i64 (q : Int), .bool false])) ∧ Below w.heap.size w w' := h
theorem pr_ok {q : Nat} {ts : List Tm} {w w' : World} {e : Ending} (h : PrPost (some ts, q) w e w') : (∃ v, e = .returned (.tuple #[v, .int .i64 (q : Int), .bool true]) ∧ TermsIn w' v ts) ∧ Below w.heap.size w w' := h
structure SomeAt (w wr : World) (v : Value) (s : ByteArray) (n : Nat) (ns : List ByteArray) (RR : Option (Int × List Tm) × Nat) (p0 i q : Nat) (k : Int) (acc : List Tm) : Prop where
  own : OwnTms wr (w.heap.size + 1) v acc
  box : wr.heap[w.heap.size]? = some (.cells #[.int .i64 k, .int .i64 0, .string ⟨#[]⟩] 24 (0, 0))
  same : Pl.someR s n (ns.drop i) k q acc = RR
  lo : p0 ≤ q
  hi : q ≤ s.size
  len : i ≤ acc.length
  small : acc.length ≤ q
  txt : ∀ t ∈ acc, t.s.size ≤ s.size
  bel : Below w.heap.size w wr
def SomeRel (w wr : World) (v : Value) (s : ByteArray) (n : Nat) (ns : List ByteArray) (RR : Option (Int × List Tm) × Nat) (p0 i q : Nat) : Prop := ∃ k acc, SomeAt w wr v s n ns RR p0 i q k acc
theorem box_alloc {w : World} {B : Nat} {o : Obj} {cs : Array Value} {T : TypeId} (h : w.heap[B]? = some (.cells cs T (0, 0))) (o' : Obj) : (w.alloc o').heap[B]? = some (.cells cs T (0, 0)) := by
  have := (Array.getElem?_eq_some_iff.1 h).1
  rw [(below1 w o').block B this]; exact h
theorem box_below {w w' : World} {B : Nat} {cs : Array Value} {T : TypeId} (h : w.heap[B]? = some (.cells cs T (0, 0))) (hb : Below w.heap.size w w') : w'.heap[B]? = some (.cells cs T (0, 0)) := by
  rw [hb.block B (Array.getElem?_eq_some_iff.1 h).1]; exact h
theorem map_clamp_len (f : Fm) : (f.flat.map Pl.clampT).length = f.flat.length := List.length_map _
theorem clamp_txt {f : Fm} {m : Nat} (h : ∀ t ∈ f.flat, t.s.size ≤ m) : ∀ t ∈ f.flat.map Pl.clampT, t.s.size ≤ m := by
  intro t ht
  obtain ⟨u, hu, rfl⟩ := List.mem_map.1 ht
  rw [Pl.clampT_s]; exact h u hu
set_option maxRecDepth 100000 in
set_option maxHeartbeats 16000000 in
theorem someR_all (n : Nat) (ih : ParseRAt n) (s : ByteArray) (p0 : Nat) (k0 : Int) (ns : List ByteArray) (last : ByteArray) (g c : Nat) (w : World) (hs : s.size ≤ 100000000) (hp : p0 ≤ s.size) (hf : s.size < p0 + (n + 1)) (hc : ns.length ≤ c) (h1 : 1 ≤ ns.length) (h3 : ns.length ≤ 3)
    (hsz : ∀ x ∈ ns, x.size ≤ 2) (hl : last.size ≤ 1) (hg : g < w.heap.size) (hw : ∀ j x, ns[j]? = some x → w.cell? ⟨g, j, none⟩ = some (.string x)) :
    Calls Tryz.prog 91 #[.string s, .int .i64 p0, .agg #[.int .i64 k0, .int .i64 0, .string ⟨#[]⟩], .slice (some ⟨g, 0, none⟩) ns.length c, .string last] w (PrPost (Pl.someAll s n ns last k0 p0) w) := by
  have HG := Lib.hid hw
  have HIH := Lib.hid ih
  have HSZ := Lib.hid hsz
  obtain ⟨i0, hi0, hz0, hz1, hz2⟩ := info_parts info24
  obtain ⟨RR, hRR⟩ : ∃ RR, RR = Pl.someR s n ns k0 p0 [] := ⟨_, rfl⟩
  obtain ⟨R, hR⟩ : ∃ R, R = Pl.someEnd s last RR := ⟨_, rfl⟩
  have hRR2 : Pl.someAll s n ns last k0 p0 = R := by rw [hR, hRR]; rfl
  rw [hRR2]
  have HRR := Lib.hid hRR
  have HR := Lib.hid hR
  clear hw ih hsz hRR hR hRR2
  go_enter Tryz.func91, Tryz.ntmps91
  go_wp2_with fail
  go_loopw [1, 13, 14] (fun s1 s13 s14 wr => ∃ i q : Nat, i ≤ ns.length ∧ s14 = .int .i64 i ∧ s1 = .int .i64 q ∧ SomeRel w wr s13 s n ns RR p0 i q) (fun _ _ s14 _ => ns.length - (intOf s14).toNat)
  case atStart =>
    refine ⟨0, p0, Nat.zero_le _, rfl, rfl, k0, [], World.ownsRow_nil _ _ _ _, (MapKept.heap_alloc w _).1, by rw [List.drop_zero]; exact HRR.out.symm, Nat.le_refl _, hp, Nat.zero_le _, Nat.zero_le _, by simp, below1 _ _⟩
  case round =>
    obtain ⟨i, q, hi, rfl, rfl, k, acc, hA⟩ := hrel
    have HA := Lib.hid hA
    have hlo := hA.lo
    have hhi := hA.hi
    have hlen := hA.len
    have hsm := hA.small
    have hsz0 := hA.bel.size
    have hbs : w.heap.size < wr.heap.size := (Array.getElem?_eq_some_iff.1 hA.box).1
    obtain ⟨b0, b1, b2⟩ := box_cells hA.box
    have f0 := Lib.frozen_of_heap hA.box 0
    clear hA
    by_cases hlt : i < ns.length
    · obtain ⟨x, hx⟩ : ∃ x, ns[i]? = some x := ⟨ns[i], by simp⟩
      have c0 : wr.cell? ⟨g, i, none⟩ = some (.string x) := (HA.out.bel.cell (p := ⟨g, i, none⟩) hg).trans (HG.out i x hx)
      have hx2 := HSZ.out x (List.mem_of_getElem? hx)
      have HSM : Hid (Pl.someR s n (x :: ns.drop (i + 1)) k q acc = RR) := Lib.hid (by
        rw [← HA.out.same]
        congr 1
        rw [List.drop_eq_getElem_cons hlt]
        congr 1
        rw [List.getElem?_eq_getElem hlt] at hx
        exact (Option.some.inj hx).symm)
      clear hx
      obtain ⟨W, hW⟩ : ∃ W, W = wr := ⟨_, rfl⟩
      rw [← hW] at HA hsz0 hbs b0 b1 b2 f0 c0 ⊢
      clear hW
      by_cases hx0 : x = ⟨#[]⟩
      · subst hx0
        by_cases hqs : q = s.size
        · subst hqs
          have HN : Hid (R = (none, s.size)) := Lib.hid (by
            have h := HSM.out
            have e : Pl.kindOf (Pl.peekB s s.size) = 0 := by unfold Pl.peekB; rw [dif_neg (by omega)]; rfl
            unfold Pl.someR at h
            rw [if_pos (show ({ data := #[] } : ByteArray).size = 0 from rfl), if_pos e] at h
            rw [HR.out, ← h]; rfl)
          go_wp2_with fail
          go_ret3
          rw [HN.out]
          exact ⟨⟨_, rfl⟩, HA.out.bel⟩
        · have hq : q < s.size := by omega
          have hpk : Pl.peekB s q = s[q] := dif_pos hq
          obtain ⟨K, hK⟩ : ∃ K, K = Pl.kindOf s[q] := ⟨_, rfl⟩
          have hki := Pl.kindOf_iff s[q]
          rw [← hK] at hki
          have HKI := Lib.hid hki
          have HK := Lib.hid (show K = Pl.kindOf (Pl.peekB s q) by rw [hpk, hK])
          clear hK hki hpk
          go_wp2_with fail
          go_loopw [15, 16] (fun s15 s16 wi => ∃ j : Nat, j ≤ 9 ∧ s16 = .int .i64 j ∧ s15 = .int .i64 (if K < 8 + (j : Int) then K else 0) ∧ Below W.heap.size W wi) (fun _ s16 _ => 9 - (intOf s16).toNat)
          case atStart => exact ⟨0, Nat.zero_le _, rfl, by have := HKI.out; congr 1; split <;> omega, Below.refl _ _⟩
          case round =>
            obtain ⟨j, hj, rfl, rfl, hb⟩ := hrel
            have HBI := Lib.hid hb
            clear hb
            obtain ⟨y, hy⟩ : ∃ y : Int, y = (if K < 8 + (j : Int) then K else 0) := ⟨_, rfl⟩
            rw [← hy]
            have HY := Lib.hid hy
            clear hy
            by_cases hj9 : j < 9
            · have hjs : j = 0 ∨ j = 1 ∨ j = 2 ∨ j = 3 ∨ j = 4 ∨ j = 5 ∨ j = 6 ∨ j = 7 ∨ j = 8 := by omega
              rcases hjs with rfl | rfl | rfl | rfl | rfl | rfl | rfl | rfl | rfl
              · by_cases hcj : (s[q].toNat : Int) = 43
                · have h5 : ((s[q].toNat : Int) == (((⟨#[43, 45, 42, 47, 37, 61, 60, 38, 124]⟩ : ByteArray)[0]'(by decide)).toNat : Int)) = true := by rw [beq_iff_eq]; exact hcj
                  have hkj : K = 8 := by have := HKI.out; omega
                  go_wp2_with fail
                  go_quiet (fail)
                  go_wp2_with fail
                  go_roundw
                  case rel => exact ⟨1, by omega, by go_num, by rw [hkj]; rfl, below_drewN' HBI.out _⟩
                  case measure => simp [intOf]
                · have h5 : ((s[q].toNat : Int) == (((⟨#[43, 45, 42, 47, 37, 61, 60, 38, 124]⟩ : ByteArray)[0]'(by decide)).toNat : Int)) = false := by rw [beq_eq_false_iff_ne]; exact hcj
                  have hkj : K ≠ 8 := by have := HKI.out; omega
                  go_wp2_with fail
                  go_quiet (fail)
                  go_wp2_with fail
                  go_roundw
                  case rel => exact ⟨1, by omega, by go_num, by rw [HY.out]; congr 1; have := HKI.out; split <;> split <;> omega, below_drewN' HBI.out _⟩
                  case measure => simp [intOf]
              · by_cases hcj : (s[q].toNat : Int) = 45
                · have h5 : ((s[q].toNat : Int) == (((⟨#[43, 45, 42, 47, 37, 61, 60, 38, 124]⟩ : ByteArray)[1]'(by decide)).toNat : Int)) = true := by rw [beq_iff_eq]; exact hcj
                  have hkj : K = 9 := by have := HKI.out; omega
                  go_wp2_with fail
                  go_quiet (fail)
                  go_wp2_with fail
                  go_roundw
                  case rel => exact ⟨2, by omega, by go_num, by rw [hkj]; rfl, below_drewN' HBI.out _⟩
                  case measure => simp [intOf]
                · have h5 : ((s[q].toNat : Int) == (((⟨#[43, 45, 42, 47, 37, 61, 60, 38, 124]⟩ : ByteArray)[1]'(by decide)).toNat : Int)) = false := by rw [beq_eq_false_iff_ne]; exact hcj
                  have hkj : K ≠ 9 := by have := HKI.out; omega
                  go_wp2_with fail
                  go_quiet (fail)
                  go_wp2_with fail
                  go_roundw
                  case rel => exact ⟨2, by omega, by go_num, by rw [HY.out]; congr 1; have := HKI.out; split <;> split <;> omega, below_drewN' HBI.out _⟩
                  case measure => simp [intOf]
              · by_cases hcj : (s[q].toNat : Int) = 42
                · have h5 : ((s[q].toNat : Int) == (((⟨#[43, 45, 42, 47, 37, 61, 60, 38, 124]⟩ : ByteArray)[2]'(by decide)).toNat : Int)) = true := by rw [beq_iff_eq]; exact hcj
                  have hkj : K = 10 := by have := HKI.out; omega
                  go_wp2_with fail
                  go_quiet (fail)
                  go_wp2_with fail
                  go_roundw
                  case rel => exact ⟨3, by omega, by go_num, by rw [hkj]; rfl, below_drewN' HBI.out _⟩
                  case measure => simp [intOf]
                · have h5 : ((s[q].toNat : Int) == (((⟨#[43, 45, 42, 47, 37, 61, 60, 38, 124]⟩ : ByteArray)[2]'(by decide)).toNat : Int)) = false := by rw [beq_eq_false_iff_ne]; exact hcj
                  have hkj : K ≠ 10 := by have := HKI.out; omega
                  go_wp2_with fail
                  go_quiet (fail)
                  go_wp2_with fail
                  go_roundw
                  case rel => exact ⟨3, by omega, by go_num, by rw [HY.out]; congr 1; have := HKI.out; split <;> split <;> omega, below_drewN' HBI.out _⟩
                  case measure => simp [intOf]
              · by_cases hcj : (s[q].toNat : Int) = 47
                · have h5 : ((s[q].toNat : Int) == (((⟨#[43, 45, 42, 47, 37, 61, 60, 38, 124]⟩ : ByteArray)[3]'(by decide)).toNat : Int)) = true := by rw [beq_iff_eq]; exact hcj
                  have hkj : K = 11 := by have := HKI.out; omega
                  go_wp2_with fail
                  go_quiet (fail)
                  go_wp2_with fail
                  go_roundw
                  case rel => exact ⟨4, by omega, by go_num, by rw [hkj]; rfl, below_drewN' HBI.out _⟩
                  case measure => simp [intOf]
                · have h5 : ((s[q].toNat : Int) == (((⟨#[43, 45, 42, 47, 37, 61, 60, 38, 124]⟩ : ByteArray)[3]'(by decide)).toNat : Int)) = false := by rw [beq_eq_false_iff_ne]; exact hcj
                  have hkj : K ≠ 11 := by have := HKI.out; omega
                  go_wp2_with fail
                  go_quiet (fail)
                  go_wp2_with fail
                  go_roundw
                  case rel => exact ⟨4, by omega, by go_num, by rw [HY.out]; congr 1; have := HKI.out; split <;> split <;> omega, below_drewN' HBI.out _⟩
                  case measure => simp [intOf]
              · by_cases hcj : (s[q].toNat : Int) = 37
                · have h5 : ((s[q].toNat : Int) == (((⟨#[43, 45, 42, 47, 37, 61, 60, 38, 124]⟩ : ByteArray)[4]'(by decide)).toNat : Int)) = true := by rw [beq_iff_eq]; exact hcj
                  have hkj : K = 12 := by have := HKI.out; omega
                  go_wp2_with fail
                  go_quiet (fail)
                  go_wp2_with fail
                  go_roundw
                  case rel => exact ⟨5, by omega, by go_num, by rw [hkj]; rfl, below_drewN' HBI.out _⟩
                  case measure => simp [intOf]
                · have h5 : ((s[q].toNat : Int) == (((⟨#[43, 45, 42, 47, 37, 61, 60, 38, 124]⟩ : ByteArray)[4]'(by decide)).toNat : Int)) = false := by rw [beq_eq_false_iff_ne]; exact hcj
                  have hkj : K ≠ 12 := by have := HKI.out; omega
                  go_wp2_with fail
                  go_quiet (fail)
                  go_wp2_with fail
                  go_roundw
                  case rel => exact ⟨5, by omega, by go_num, by rw [HY.out]; congr 1; have := HKI.out; split <;> split <;> omega, below_drewN' HBI.out _⟩
                  case measure => simp [intOf]
              · by_cases hcj : (s[q].toNat : Int) = 61
                · have h5 : ((s[q].toNat : Int) == (((⟨#[43, 45, 42, 47, 37, 61, 60, 38, 124]⟩ : ByteArray)[5]'(by decide)).toNat : Int)) = true := by rw [beq_iff_eq]; exact hcj
                  have hkj : K = 13 := by have := HKI.out; omega
                  go_wp2_with fail
                  go_quiet (fail)
                  go_wp2_with fail
                  go_roundw
                  case rel => exact ⟨6, by omega, by go_num, by rw [hkj]; rfl, below_drewN' HBI.out _⟩
                  case measure => simp [intOf]
                · have h5 : ((s[q].toNat : Int) == (((⟨#[43, 45, 42, 47, 37, 61, 60, 38, 124]⟩ : ByteArray)[5]'(by decide)).toNat : Int)) = false := by rw [beq_eq_false_iff_ne]; exact hcj
                  have hkj : K ≠ 13 := by have := HKI.out; omega
                  go_wp2_with fail
                  go_quiet (fail)
                  go_wp2_with fail
                  go_roundw
                  case rel => exact ⟨6, by omega, by go_num, by rw [HY.out]; congr 1; have := HKI.out; split <;> split <;> omega, below_drewN' HBI.out _⟩
                  case measure => simp [intOf]
              · by_cases hcj : (s[q].toNat : Int) = 60
                · have h5 : ((s[q].toNat : Int) == (((⟨#[43, 45, 42, 47, 37, 61, 60, 38, 124]⟩ : ByteArray)[6]'(by decide)).toNat : Int)) = true := by rw [beq_iff_eq]; exact hcj
                  have hkj : K = 14 := by have := HKI.out; omega
                  go_wp2_with fail
                  go_quiet (fail)
                  go_wp2_with fail
                  go_roundw
                  case rel => exact ⟨7, by omega, by go_num, by rw [hkj]; rfl, below_drewN' HBI.out _⟩
                  case measure => simp [intOf]
                · have h5 : ((s[q].toNat : Int) == (((⟨#[43, 45, 42, 47, 37, 61, 60, 38, 124]⟩ : ByteArray)[6]'(by decide)).toNat : Int)) = false := by rw [beq_eq_false_iff_ne]; exact hcj
                  have hkj : K ≠ 14 := by have := HKI.out; omega
                  go_wp2_with fail
                  go_quiet (fail)
                  go_wp2_with fail
                  go_roundw
                  case rel => exact ⟨7, by omega, by go_num, by rw [HY.out]; congr 1; have := HKI.out; split <;> split <;> omega, below_drewN' HBI.out _⟩
                  case measure => simp [intOf]
              · by_cases hcj : (s[q].toNat : Int) = 38
                · have h5 : ((s[q].toNat : Int) == (((⟨#[43, 45, 42, 47, 37, 61, 60, 38, 124]⟩ : ByteArray)[7]'(by decide)).toNat : Int)) = true := by rw [beq_iff_eq]; exact hcj
                  have hkj : K = 15 := by have := HKI.out; omega
                  go_wp2_with fail
                  go_quiet (fail)
                  go_wp2_with fail
                  go_roundw
                  case rel => exact ⟨8, by omega, by go_num, by rw [hkj]; rfl, below_drewN' HBI.out _⟩
                  case measure => simp [intOf]
                · have h5 : ((s[q].toNat : Int) == (((⟨#[43, 45, 42, 47, 37, 61, 60, 38, 124]⟩ : ByteArray)[7]'(by decide)).toNat : Int)) = false := by rw [beq_eq_false_iff_ne]; exact hcj
                  have hkj : K ≠ 15 := by have := HKI.out; omega
                  go_wp2_with fail
                  go_quiet (fail)
                  go_wp2_with fail
                  go_roundw
                  case rel => exact ⟨8, by omega, by go_num, by rw [HY.out]; congr 1; have := HKI.out; split <;> split <;> omega, below_drewN' HBI.out _⟩
                  case measure => simp [intOf]
              · by_cases hcj : (s[q].toNat : Int) = 124
                · have h5 : ((s[q].toNat : Int) == (((⟨#[43, 45, 42, 47, 37, 61, 60, 38, 124]⟩ : ByteArray)[8]'(by decide)).toNat : Int)) = true := by rw [beq_iff_eq]; exact hcj
                  have hkj : K = 16 := by have := HKI.out; omega
                  go_wp2_with fail
                  go_quiet (fail)
                  go_wp2_with fail
                  go_roundw
                  case rel => exact ⟨9, by omega, by go_num, by rw [hkj]; rfl, below_drewN' HBI.out _⟩
                  case measure => simp [intOf]
                · have h5 : ((s[q].toNat : Int) == (((⟨#[43, 45, 42, 47, 37, 61, 60, 38, 124]⟩ : ByteArray)[8]'(by decide)).toNat : Int)) = false := by rw [beq_eq_false_iff_ne]; exact hcj
                  have hkj : K ≠ 16 := by have := HKI.out; omega
                  go_wp2_with fail
                  go_quiet (fail)
                  go_wp2_with fail
                  go_roundw
                  case rel => exact ⟨9, by omega, by go_num, by rw [HY.out]; congr 1; have := HKI.out; split <;> split <;> omega, below_drewN' HBI.out _⟩
                  case measure => simp [intOf]
            · obtain rfl : j = 9 := by omega
              obtain rfl : K = y := by rw [HY.out, if_pos (by have := HKI.out; omega)]
              by_cases hK0 : K = 0
              · have HN : Hid (R = (none, q)) := Lib.hid (by
                  have h := HSM.out
                  unfold Pl.someR at h
                  rw [if_pos (show ({ data := #[] } : ByteArray).size = 0 from rfl), if_pos (by rw [← HK.out]; exact hK0)] at h
                  rw [HR.out, ← h]; rfl)
                go_wp2_with fail
                go_ret3
                rw [HN.out]
                exact ⟨⟨_, rfl⟩, HA.out.bel.trans (HBI.out.mono hsz0)⟩
              · have HB1 := Lib.hid (box_below HA.out.box HBI.out)
                have g0 := (box_cells HB1.out).1
                have g1 := Lib.frozen_of_heap HB1.out 0
                go_wp2_with fail
                have OWN : Hid (OwnTms (wr.setCell ⟨w.heap.size, 0, none⟩ (.int .i64 K)) (w.heap.size + 1) u13 acc) := Lib.hid (own_set (ownsRow_below HA.out.own HBI.out) (by omega) 0)
                have BOX : Hid ((wr.setCell ⟨w.heap.size, 0, none⟩ (.int .i64 K)).heap[w.heap.size]? = some (.cells #[.int .i64 K, .int .i64 0, .string ⟨#[]⟩] 24 (0, 0))) := Lib.hid (Joins.block_setCell HB1.out _)
                have BEL : Hid (Below w.heap.size w (wr.setCell ⟨w.heap.size, 0, none⟩ (.int .i64 K))) := Lib.hid ((HA.out.bel.trans (HBI.out.mono hsz0)).setCell (p := ⟨w.heap.size, 0, none⟩) (Nat.le_refl _) _)
                have SAME : Hid ((match Pl.rd s n (q + 1) with | .ok f q2 => Pl.someR s n (ns.drop (i + 1)) K q2 (acc ++ f.flat.map Pl.clampT) | .bad q2 => (none, q2)) = RR) := Lib.hid (by
                  have h := HSM.out
                  rw [HK.out]
                  unfold Pl.someR at h
                  rw [if_pos (show ({ data := #[] } : ByteArray).size = 0 from rfl), if_neg (by rw [← HK.out]; exact hK0)] at h
                  exact h)
                have hsb := BEL.out.size
                refine (HIH.out s (q + 1) _ hs (by omega) (by omega)).mono ?_
                intro e w5 hm
                cases hr : Pl.rd s n (q + 1) with
                | bad q2 =>
                  rw [hr] at hm
                  obtain ⟨⟨v, rfl⟩, hb5⟩ := pr_bad hm
                  have HN : Hid (R = (none, q2)) := Lib.hid (by have h := SAME.out; rw [hr] at h; rw [HR.out, ← h]; rfl)
                  have HB5 := Lib.hid (BEL.out.trans (hb5.mono hsb))
                  clear hb5 hm hr
                  go_wp2_with fail
                  go_ret3
                  rw [HN.out]
                  exact ⟨⟨_, rfl⟩, HB5.out⟩
                | ok f q2 =>
                  rw [hr] at hm
                  obtain ⟨⟨v, rfl, hT⟩, hb5⟩ := pr_ok hm
                  have hbd := Pl.rd_bounds s n (q + 1) (by omega)
                  rw [hr] at hbd
                  obtain ⟨d1, d2, d3⟩ := hbd
                  have hft := Pl.rd_fits s n (q + 1)
                  rw [hr] at hft
                  have HFT : Hid (∀ t ∈ f.flat, t.s.size ≤ s.size) := Lib.hid hft
                  have HSA : Hid (Pl.someR s n (ns.drop (i + 1)) K q2 (acc ++ f.flat.map Pl.clampT) = RR) := Lib.hid (by have h := SAME.out; rw [hr] at h; exact h)
                  have hfp := Fm.flat_pos f
                  obtain ⟨fl, hfl⟩ : ∃ fl, fl = f.flat.map Pl.clampT := ⟨_, rfl⟩
                  have hfn : fl.length = f.flat.length := by rw [hfl, List.length_map]
                  have HTX : Hid (∀ t ∈ fl, t.s.size ≤ s.size) := Lib.hid (by rw [hfl]; exact clamp_txt HFT.out)
                  rw [← hfl] at HSA hT
                  obtain ⟨fa, fc, rfl, hfc, _, hrow⟩ := hT
                  obtain ⟨fb, fo, rfl, hrow2⟩ := hrow (by intro e; rw [e] at hfn; simp at hfn; omega)
                  have HRC := Lib.hid (show ∀ j u, (tmCells fl)[j]? = some u → w5.cell? ((⟨fb, fo, none⟩ : Addr).add j) = some u from fun j u hj => by rw [add_plain]; exact row_cells fl fo hrow2 j u hj)
                  have HOW := Lib.hid (show OwnTms w5 (w.heap.size + 1) u13 acc from ownsRow_below OWN.out hb5)
                  have HBX := Lib.hid (box_below BOX.out hb5)
                  have HB5 := Lib.hid (BEL.out.trans (hb5.mono hsb))
                  have hs5 := HB5.out.size
                  have hbs5 : w.heap.size < w5.heap.size := (Array.getElem?_eq_some_iff.1 HBX.out).1
                  have n1 : fl.length ≤ 100000000 := by omega
                  have n3 : q2 ≤ s.size ∧ (q + 1) < q2 ∧ 0 < fl.length ∧ fl.length ≤ q2 - (q + 1) := by omega
                  have n2 : acc.length ≤ 100000000 := by omega
                  clear hrow hrow2 hb5 hm hr hft hfl SAME hfn d1 d2 d3 hfp HFT
                  go_wp2_with (at_builtin; go_loud (refine wpList_append_own _ rfl _ _ 25 rfl (w.heap.size + 1) 24 i0 (.agg #[.int .i64 0, .int .i64 0, .string ByteArray.empty]) 3 32 Tryz.underlying25 hi0 hz0 hz1 hz2 rfl (by decide) _ _ _ rfl HOW.out ⟨fb, fo, none⟩ fl.length fc (tmCells fl) rfl (tmCells_size3 _) HRC.out (tmCells_one _) (by simp [maxLen]; omega) (by omega) (by omega) ?_))
                  intro v' w6 hown hgrow _
                  have HOW6 : Hid (OwnTms w6 (w.heap.size + 1) v' (acc ++ fl)) := by
                    refine Lib.hid ?_
                    unfold OwnTms
                    rw [tmCells_append, List.length_append]
                    exact hown
                  have HB6 := Lib.hid (HB5.out.grown hgrow hs5 fun j hj => by have := (World.ownsRow.lt HOW.out j hj).1; omega)
                  have HBX6 : Hid (w6.heap[w.heap.size]? = some (.cells #[.int .i64 K, .int .i64 0, .string ⟨#[]⟩] 24 (0, 0))) := Lib.hid (by
                    rw [hgrow.block w.heap.size hbs5 (by intro e; have := (World.ownsRow.lt HOW.out w.heap.size e.symm).1; omega)]
                    exact HBX.out)
                  clear hown hgrow
                  go_wp2_with fail
                  go_roundw
                  case rel =>
                    refine ⟨i + 1, q2, by omega, by go_num, rfl, K, acc ++ fl, HOW6.out, HBX6.out, HSA.out, by omega, by omega, by rw [List.length_append]; omega, by rw [List.length_append]; omega, ?_, HB6.out⟩
                    intro t ht
                    rcases List.mem_append.1 ht with h | h
                    · exact HA.out.txt t h
                    · exact HTX.out t h
                  case measure => simp [intOf]; omega
      · have hx1 : 0 < x.size := by
          rcases Nat.eq_zero_or_pos x.size with e | e
          · exact absurd (by
              have : x.data.toList = [] := List.length_eq_zero_iff.1 e
              exact bytes_ext this) hx0
          · exact e
        have hne : x.toList.isEmpty = false := by
          cases e : x.toList.isEmpty with
          | false => rfl
          | true => exact absurd (Pl.empty_of e) hx0
        obtain ⟨o, ho⟩ : ∃ o, o = Pl.wantFail s x.data.toList q := ⟨_, rfl⟩
        have HO := Lib.hid ho
        have HSM2 : Hid (Pl.orBad o (match Pl.rd s n (q + x.size) with | .ok f q2 => Pl.someR s n (ns.drop (i + 1)) k q2 (acc ++ f.flat.map Pl.clampT) | .bad q2 => (none, q2)) = RR) := Lib.hid (by
          have h := HSM.out
          unfold Pl.someR at h
          rw [if_neg (by omega), ← ho] at h
          exact h)
        clear ho
        go_wp2_with fail
        refine (wordR_any s x q o _ hs hhi (by omega) HO).mono ?_
        rintro e w2 ⟨hm, hb2⟩
        cases o with
        | some q' =>
          obtain rfl := hm
          have HN : Hid (R = (none, q')) := Lib.hid (by rw [HR.out, ← HSM2.out]; rfl)
          have HB2 := Lib.hid (HA.out.bel.trans (hb2.mono hsz0))
          clear hb2
          go_wp2_with fail
          go_ret3
          rw [HN.out]
          exact ⟨⟨_, rfl⟩, HB2.out⟩
        | none =>
          obtain rfl := hm
          have hwn := Pl.wantFail_none HO.out.symm hhi
          rw [show x.data.toList.length = x.size from rfl] at hwn
          have OWN := Lib.hid (show OwnTms w2 (w.heap.size + 1) u13 acc from ownsRow_below HA.out.own hb2)
          have BOX := Lib.hid (box_below HA.out.box hb2)
          have BEL := Lib.hid (HA.out.bel.trans (hb2.mono hsz0))
          have SAME : Hid ((match Pl.rd s n (q + x.size) with | .ok f q2 => Pl.someR s n (ns.drop (i + 1)) k q2 (acc ++ f.flat.map Pl.clampT) | .bad q2 => (none, q2)) = RR) := HSM2
          clear hb2
          go_wp2_with fail
          have hsb := BEL.out.size
          refine (HIH.out s (q + x.size) _ hs (by omega) (by omega)).mono ?_
          intro e w5 hm
          cases hr : Pl.rd s n (q + x.size) with
          | bad q2 =>
            rw [hr] at hm
            obtain ⟨⟨v, rfl⟩, hb5⟩ := pr_bad hm
            have HN : Hid (R = (none, q2)) := Lib.hid (by have h := SAME.out; rw [hr] at h; rw [HR.out, ← h]; rfl)
            have HB5 := Lib.hid (BEL.out.trans (hb5.mono hsb))
            clear hb5 hm hr
            go_wp2_with fail
            go_ret3
            rw [HN.out]
            exact ⟨⟨_, rfl⟩, HB5.out⟩
          | ok f q2 =>
            rw [hr] at hm
            obtain ⟨⟨v, rfl, hT⟩, hb5⟩ := pr_ok hm
            have hbd := Pl.rd_bounds s n (q + x.size) (by omega)
            rw [hr] at hbd
            obtain ⟨d1, d2, d3⟩ := hbd
            have hft := Pl.rd_fits s n (q + x.size)
            rw [hr] at hft
            have HFT : Hid (∀ t ∈ f.flat, t.s.size ≤ s.size) := Lib.hid hft
            have HSA : Hid (Pl.someR s n (ns.drop (i + 1)) k q2 (acc ++ f.flat.map Pl.clampT) = RR) := Lib.hid (by have h := SAME.out; rw [hr] at h; exact h)
            have hfp := Fm.flat_pos f
            obtain ⟨fl, hfl⟩ : ∃ fl, fl = f.flat.map Pl.clampT := ⟨_, rfl⟩
            have hfn : fl.length = f.flat.length := by rw [hfl, List.length_map]
            have HTX : Hid (∀ t ∈ fl, t.s.size ≤ s.size) := Lib.hid (by rw [hfl]; exact clamp_txt HFT.out)
            rw [← hfl] at HSA hT
            obtain ⟨fa, fc, rfl, hfc, _, hrow⟩ := hT
            obtain ⟨fb, fo, rfl, hrow2⟩ := hrow (by intro e; rw [e] at hfn; simp at hfn; omega)
            have HRC := Lib.hid (show ∀ j u, (tmCells fl)[j]? = some u → w5.cell? ((⟨fb, fo, none⟩ : Addr).add j) = some u from fun j u hj => by rw [add_plain]; exact row_cells fl fo hrow2 j u hj)
            have HOW := Lib.hid (show OwnTms w5 (w.heap.size + 1) u13 acc from ownsRow_below OWN.out hb5)
            have HBX := Lib.hid (box_below BOX.out hb5)
            have HB5 := Lib.hid (BEL.out.trans (hb5.mono hsb))
            have hs5 := HB5.out.size
            have hbs5 : w.heap.size < w5.heap.size := (Array.getElem?_eq_some_iff.1 HBX.out).1
            have n1 : fl.length ≤ 100000000 := by omega
            have n3 : q2 ≤ s.size ∧ (q + x.size) < q2 ∧ 0 < fl.length ∧ fl.length ≤ q2 - (q + x.size) := by omega
            have n2 : acc.length ≤ 100000000 := by omega
            clear hrow hrow2 hb5 hm hr hft hfl SAME hfn d1 d2 d3 hfp HFT
            go_wp2_with (at_builtin; go_loud (refine wpList_append_own _ rfl _ _ 25 rfl (w.heap.size + 1) 24 i0 (.agg #[.int .i64 0, .int .i64 0, .string ByteArray.empty]) 3 32 Tryz.underlying25 hi0 hz0 hz1 hz2 rfl (by decide) _ _ _ rfl HOW.out ⟨fb, fo, none⟩ fl.length fc (tmCells fl) rfl (tmCells_size3 _) HRC.out (tmCells_one _) (by simp [maxLen]; omega) (by omega) (by omega) ?_))
            intro v' w6 hown hgrow _
            have HOW6 : Hid (OwnTms w6 (w.heap.size + 1) v' (acc ++ fl)) := by
              refine Lib.hid ?_
              unfold OwnTms
              rw [tmCells_append, List.length_append]
              exact hown
            have HB6 := Lib.hid (HB5.out.grown hgrow hs5 fun j hj => by have := (World.ownsRow.lt HOW.out j hj).1; omega)
            have HBX6 : Hid (w6.heap[w.heap.size]? = some (.cells #[.int .i64 k, .int .i64 0, .string ⟨#[]⟩] 24 (0, 0))) := Lib.hid (by
              rw [hgrow.block w.heap.size hbs5 (by intro e; have := (World.ownsRow.lt HOW.out w.heap.size e.symm).1; omega)]
              exact HBX.out)
            clear hown hgrow
            go_wp2_with fail
            go_roundw
            case rel =>
              refine ⟨i + 1, q2, by omega, by go_num, rfl, k, acc ++ fl, HOW6.out, HBX6.out, HSA.out, by omega, by omega, by rw [List.length_append]; omega, by rw [List.length_append]; omega, ?_, HB6.out⟩
              intro t ht
              rcases List.mem_append.1 ht with h | h
              · exact HA.out.txt t h
              · exact HTX.out t h
            case measure => simp [intOf]; omega
    · obtain rfl : i = ns.length := by omega
      have HRE : Hid (RR = (some (k, acc), q)) := Lib.hid (by have h := HA.out.same; rw [List.drop_length] at h; exact h.symm)
      obtain ⟨o, ho⟩ : ∃ o, o = Pl.wantFail s last.data.toList q := ⟨_, rfl⟩
      have HRR3 : Hid (R = Pl.orBad o (some (Pl.mk0 k :: acc), q + last.size)) := Lib.hid (by
        rw [HR.out, HRE.out, ho]; rfl)
      have HO := Lib.hid ho
      clear ho
      go_wp2_with fail
      refine (wordR_any s last q o _ hs hhi (by omega) HO).mono ?_
      rintro e w2 ⟨hm, hb2⟩
      cases o with
      | some q' =>
        obtain rfl := hm
        have HB2 := Lib.hid (HA.out.bel.trans (hb2.mono hsz0))
        clear hb2
        go_wp2_with fail
        go_ret3
        rw [HRR3.out]
        exact ⟨⟨_, rfl⟩, HB2.out⟩
      | none =>
        obtain rfl := hm
        have HOW := Lib.hid (show OwnTms w2 (w.heap.size + 1) u13 acc from ownsRow_below HA.out.own hb2)
        have HBX := Lib.hid (box_below HA.out.box hb2)
        obtain ⟨d0, d1, d2⟩ := box_cells HBX.out
        have HB2 := Lib.hid (HA.out.bel.trans (hb2.mono hsz0))
        have hs2 := HB2.out.size
        have hbs2 : w.heap.size < w2.heap.size := (Array.getElem?_eq_some_iff.1 HBX.out).1
        have hac : 0 < acc.length := by omega
        obtain ⟨aa, ac, rfl, hac2, _, harow⟩ := own_terms HOW.out (fun t ht => Nat.le_trans (HA.out.txt t ht) (by omega))
        obtain ⟨ab, ao, rfl, harow2⟩ := harow (by intro e; rw [e] at hac; simp at hac)
        have hab := harow2.lt (by intro e; rw [e] at hac; simp at hac)
        have HRW := Lib.hid (harow2.below (below1 w2 (.cells #[.int .i64 k, .int .i64 0, .string ⟨#[]⟩] 24)) hab)
        have HRC := Lib.hid (show ∀ j u, (tmCells acc)[j]? = some u → (w2.alloc (.cells #[.int .i64 k, .int .i64 0, .string ⟨#[]⟩] 24)).cell? ((⟨ab, ao, none⟩ : Addr).add j) = some u from fun j u hj => by rw [add_plain]; exact row_cells acc ao HRW.out j u hj)
        have HNW : Hid ((w2.alloc (.cells #[.int .i64 k, .int .i64 0, .string ⟨#[]⟩] 24)).ownsRow w2.heap.size 24 3 (.slice (some ⟨w2.heap.size, 0, none⟩) 1 1) 1 [.int .i64 k, .int .i64 0, .string ⟨#[]⟩]) := Lib.hid (World.ownsRow_lit _ _ _ (Nat.le_refl _) (by decide) rfl)
        have n2 : acc.length ≤ 100000000 := by omega
        clear hb2 harow harow2
        go_wp2_with (at_builtin; go_loud (refine wpList_append_own _ rfl _ _ 25 rfl w2.heap.size 24 i0 (.agg #[.int .i64 0, .int .i64 0, .string ByteArray.empty]) 3 32 Tryz.underlying25 hi0 hz0 hz1 hz2 rfl (by decide) _ _ _ rfl HNW.out ⟨ab, ao, none⟩ acc.length ac (tmCells acc) rfl (tmCells_size3 _) HRC.out (tmCells_one _) (by simp [maxLen]; omega) (by omega) (by simp) ?_))
        intro v' w6 hown hgrow _
        have HT6 : Hid (TermsIn w6 v' (Pl.mk0 k :: acc)) := Lib.hid (by
          refine own_terms (B := w2.heap.size) ?_ ?_
          · unfold OwnTms
            have e : (Pl.mk0 k :: acc).length = 1 + acc.length := by simp [Nat.add_comm]
            rw [e]
            exact hown
          · intro t ht
            rcases List.mem_cons.1 ht with rfl | ht
            · exact Nat.zero_le _
            · exact Nat.le_trans (HA.out.txt t ht) (by omega))
        have HB6 := Lib.hid ((HB2.out.alloc hs2 _).grown hgrow (by simp; omega) fun j hj => by have := (World.ownsRow.lt HNW.out j hj).1; omega)
        clear hown hgrow
        go_wp2_with fail
        go_ret3
        rw [HRR3.out]
        exact ⟨⟨_, rfl, HT6.out⟩, HB6.out⟩
end Go.Proofs.YtchoelgkcnnnkaaGreatDoor
set_option linter.all false
namespace Go.Proofs.YtchoelgkcnnnkaaGreatDoor
open Go.RowKit
namespace Pl
theorem rd_end {s : ByteArray} {n p : Nat} (h : s.size ≤ p) : rd s n p = .bad p := by
  cases n with
  | zero => rfl
  | succ n => unfold rd; rw [if_pos h]
theorem dig_no {s : ByteArray} {p : Nat} (h : ¬ (48 ≤ (peekB s p).toNat ∧ (peekB s p).toNat ≤ 57)) : digAt 48 s p = false := by
  cases e : digAt 48 s p with
  | false => rfl
  | true => exact absurd ((dig48 s p).1 e) h
theorem rd_dig {s : ByteArray} {n p : Nat} (hp : p < s.size) (h : digAt 48 s p = true) : rd s (n + 1) p = .ok (.lf ⟨1, numVal (s.extract p (numEndOf s p)).data.toList, ⟨#[]⟩⟩) (numEndOf s p) := by
  unfold rd; rw [if_neg (by omega), if_pos h]
theorem rd_121 {s : ByteArray} {n p : Nat} (hp : p < s.size) (h : (peekB s p).toNat = 121) : rd s (n + 1) p = word s [121, 101, 115] p (.ok (.lf ⟨2, 1, ⟨#[]⟩⟩) (p + 3)) := by
  unfold rd; rw [if_neg (by omega), if_neg (by rw [dig_no (by omega)]; decide), if_pos h]
theorem rd_no {s : ByteArray} {n p : Nat} (hp : p < s.size) (h : (peekB s p).toNat = 110) (h2 : (peekB s (p + 1)).toNat = 111) : rd s (n + 1) p = .ok (.lf ⟨2, 0, ⟨#[]⟩⟩) (p + 2) := by
  unfold rd; rw [if_neg (by omega), if_neg (by rw [dig_no (by omega)]; decide), if_neg (by omega), if_pos ⟨h, h2⟩]
theorem rd_nts {s : ByteArray} {n p : Nat} (hp : p < s.size) (h : (peekB s p).toNat = 110 ∨ (peekB s p).toNat = 116 ∨ (peekB s p).toNat = 115) (h2 : ¬ ((peekB s p).toNat = 110 ∧ (peekB s (p + 1)).toNat = 111)) :
    rd s (n + 1) p = .ok (.lf ⟨4, 0, s.extract p (nameEnd s p)⟩) (nameEnd s p) := by
  unfold rd; rw [if_neg (by omega), if_neg (by rw [dig_no (by omega)]; decide), if_neg (by omega), if_neg h2, if_pos h]
theorem rd_39 {s : ByteArray} {n p : Nat} (hp : p < s.size) (h : (peekB s p).toNat = 39) :
    rd s (n + 1) p = word s [39] (textEnd s s.size (p + 1)) (.ok (.lf ⟨3, 0, s.extract (p + 1) (textEnd s s.size (p + 1))⟩) (textEnd s s.size (p + 1) + 1)) := by
  unfold rd; rw [if_neg (by omega), if_neg (by rw [dig_no (by omega)]; decide), if_neg (by omega), if_neg (by omega), if_neg (by omega), if_pos h]
theorem rd_other {s : ByteArray} {n p : Nat} (hp : p < s.size) (h0 : ¬ (48 ≤ (peekB s p).toNat ∧ (peekB s p).toNat ≤ 57))
    (h1 : (peekB s p).toNat ≠ 121) (h2 : (peekB s p).toNat ≠ 110) (h3 : (peekB s p).toNat ≠ 116) (h4 : (peekB s p).toNat ≠ 115) (h5 : (peekB s p).toNat ≠ 39) (h6 : (peekB s p).toNat ≠ 45) (h7 : (peekB s p).toNat ≠ 33)
    (h8 : (peekB s p).toNat ≠ 35) (h9 : (peekB s p).toNat ≠ 40) (h10 : (peekB s p).toNat ≠ 63) : rd s (n + 1) p = .bad p := by
  rw [rd_low hp rfl h0 h1 h2 h3 h4 h5, if_neg h6, if_neg h7, if_neg h8, if_neg h9, if_neg h10]
end Pl
def PAt (s : ByteArray) (p : Nat) (w : World) (R : Option (List Tm) × Nat) : Prop := Calls Tryz.prog 57 #[.string s, .int .i64 p] w (PrPost R w)
set_option maxRecDepth 100000 in
set_option maxHeartbeats 2000000 in
theorem p_end (s : ByteArray) (p : Nat) (w : World) (hs : s.size ≤ 100000000) (hp : p = s.size) : PAt s p w (none, p) := by
  have e1 : s.size ≤ p := by omega
  have HP := Lib.hid hp
  clear hp
  unfold PAt
  go_enter Tryz.func57, Tryz.ntmps57
  go_wp2_with fail
  go_ret3
  exact ⟨⟨_, by rw [HP.out]; rfl⟩, Below.refl _ _⟩
set_option maxRecDepth 100000 in
set_option maxHeartbeats 2000000 in
theorem p_dig (s : ByteArray) (p E : Nat) (x : Int) (w : World) (hs : s.size ≤ 100000000) (hp : p < s.size) (hd : Hid (Pl.digAt 48 s p = true)) (HE : Hid (E = Pl.numEndOf s p)) (HX : Hid (x = Pl.numR (s.extract p E).data.toList)) :
    PAt s p w (some [⟨1, x, ⟨#[]⟩⟩], E) := by
  unfold PAt
  go_enter Tryz.func57, Tryz.ntmps57
  go_wp2_with fail
  refine (digR_any s p true _ (by omega) (Lib.hid hd.out.symm)).mono ?_
  rintro e w1 ⟨rfl, rfl⟩
  go_wp2_with fail
  have h89 := numberR_any s p E x w hs hp hd HE HX
  unfold Tm.agg at h89
  refine h89.mono ?_
  rintro e w1 ⟨rfl, hb⟩
  have HB := Lib.hid hb
  clear hb
  go_wp2_with fail
  go_ret3
  refine ⟨⟨_, rfl, ?_⟩, bel_alloc (bel_alloc HB.out _) _⟩
  have hsz : (w1.alloc (.cells #[.int .i64 1, .int .i64 x, .string ⟨#[]⟩] 24)).heap.size = w1.heap.size + 1 := by simp
  have h := terms_new (w := w1.alloc (.cells #[.int .i64 1, .int .i64 x, .string ⟨#[]⟩] 24)) (ts := [⟨1, x, ⟨#[]⟩⟩]) (n := 1) (cs := #[.int .i64 1, .int .i64 x, .string ⟨#[]⟩]) (T := 24) rfl rfl (by intro t ht; rw [List.mem_singleton.1 ht]; exact Nat.zero_le _)
  rw [hsz] at h
  exact h
set_option maxRecDepth 100000 in
set_option maxHeartbeats 2000000 in
theorem p_yes (s : ByteArray) (p : Nat) (o : Option Nat) (w : World) (hs : s.size ≤ 100000000) (hp : p < s.size) (hc : (s[p].toNat : Int) = 121) (HO : Hid (o = Pl.wantFail s [121, 101, 115] p)) :
    PAt s p w (match o with | some q => (none, q) | none => (some [⟨2, 1, ⟨#[]⟩⟩], p + 3)) := by
  have hpk : Pl.peekB s p = s[p] := dif_pos hp
  have hd : Hid (false = Pl.digAt 48 s p) := Lib.hid (Pl.dig_no (by rw [hpk]; omega)).symm
  clear hpk
  unfold PAt
  go_enter Tryz.func57, Tryz.ntmps57
  go_wp2_with fail
  refine (digR_any s p false _ (by omega) hd).mono ?_
  rintro e w1 ⟨rfl, rfl⟩
  go_wp2_with fail
  refine (wordR_any s ⟨#[121, 101, 115]⟩ p o _ hs (by omega) (by decide) HO).mono ?_
  rintro e w1 ⟨hm, hb⟩
  have HB := Lib.hid hb
  clear hb
  cases o with
  | some q =>
    obtain rfl := hm
    go_wp2_with fail
    go_ret3
    exact ⟨⟨_, rfl⟩, bel_alloc HB.out _⟩
  | none =>
    obtain rfl := hm
    go_wp2_with fail
    go_ret3
    refine ⟨⟨_, rfl, ?_⟩, bel_alloc HB.out _⟩
    exact terms_new rfl rfl (by intro t ht; simp at ht; subst ht; exact Nat.zero_le _)
set_option maxRecDepth 100000 in
set_option maxHeartbeats 2000000 in
theorem p_no (s : ByteArray) (p : Nat) (w : World) (hs : s.size ≤ 100000000) (hp : p + 1 < s.size) (hc : (s[p].toNat : Int) = 110) (hc2 : (s[p + 1].toNat : Int) = 111) :
    PAt s p w (some [⟨2, 0, ⟨#[]⟩⟩], p + 2) := by
  have hpk : Pl.peekB s p = s[p] := dif_pos (by omega)
  have hd : Hid (false = Pl.digAt 48 s p) := Lib.hid (Pl.dig_no (by rw [hpk]; omega)).symm
  clear hpk
  unfold PAt
  go_enter Tryz.func57, Tryz.ntmps57
  go_wp2_with fail
  refine (digR_any s p false _ (by omega) hd).mono ?_
  rintro e w1 ⟨rfl, rfl⟩
  go_wp2_with fail
  go_ret3
  refine ⟨⟨_, rfl, ?_⟩, bel_alloc (Below.refl _ _) _⟩
  exact terms_new rfl rfl (by intro t ht; simp at ht; subst ht; exact Nat.zero_le _)
/-- The byte at a place begins a name. -/
def NtsAt (s : ByteArray) (p : Nat) (hp : p < s.size) : Prop :=
  ((s[p].toNat : Int) = 110 ∧ s.size = p + 1) ∨ ((s[p].toNat : Int) = 110 ∧ ∃ h : p + 1 < s.size, ((s[p + 1].toNat : Int) == 111) = false) ∨ (s[p].toNat : Int) = 116 ∨ (s[p].toNat : Int) = 115
theorem NtsAt.no {s : ByteArray} {p : Nat} {hp : p < s.size} (h : NtsAt s p hp) : Hid (false = Pl.digAt 48 s p) := by
  have hpk : Pl.peekB s p = s[p] := dif_pos hp
  refine Lib.hid (Pl.dig_no ?_).symm
  rw [hpk]
  rcases h with h | h | h | h
  · have := h.1; omega
  · have := h.1; omega
  · omega
  · omega
set_option maxRecDepth 100000 in
set_option maxHeartbeats 8000000 in
theorem p_name0 (s : ByteArray) (p : Nat) (w : World) (hs : s.size ≤ 100000000) (hp : p < s.size) (hc : NtsAt s p hp) (h1 : Hid (false = Pl.digAt 48 s (p + 1))) :
    PAt s p w (some [⟨4, 0, s.extract p (p + 1)⟩], p + 1) := by
  have hd := hc.no
  unfold PAt
  rcases hc with ⟨hc, hpe⟩ | ⟨hc, hpe, hno⟩ | hc | hc
  all_goals
    go_enter Tryz.func57, Tryz.ntmps57
    go_wp2_with fail
    refine (digR_any s p false _ (by omega) hd).mono ?_
    rintro e w1 ⟨rfl, rfl⟩
    go_wp2_with fail
    refine (digR_any s (p + 1) false _ (by omega) h1).mono ?_
    rintro e w1 ⟨rfl, rfl⟩
    go_wp2_with fail
    go_ret3
    refine ⟨⟨_, rfl, ?_⟩, bel_alloc (Below.refl _ _) _⟩
    exact terms_new rfl rfl (by intro t ht; simp at ht; subst ht; exact Nat.le_trans (Pl.extract_le _ _ _) (Nat.le_trans hs (by decide)))
set_option maxRecDepth 100000 in
set_option maxHeartbeats 8000000 in
theorem p_name1 (s : ByteArray) (p : Nat) (w : World) (hs : s.size ≤ 100000000) (hp : p < s.size) (hc : NtsAt s p hp) (hp1 : p + 1 < s.size) (h1 : Hid (true = Pl.digAt 48 s (p + 1))) (hz : ((s[p + 1].toNat : Int) != 48) = false) :
    PAt s p w (some [⟨4, 0, s.extract p (p + 1)⟩], p + 1) := by
  have hd := hc.no
  unfold PAt
  rcases hc with ⟨hc, hpe⟩ | ⟨hc, hpe, hno⟩ | hc | hc
  · exfalso; omega
  all_goals
    go_enter Tryz.func57, Tryz.ntmps57
    go_wp2_with fail
    refine (digR_any s p false _ (by omega) hd).mono ?_
    rintro e w1 ⟨rfl, rfl⟩
    go_wp2_with fail
    refine (digR_any s (p + 1) true _ (by omega) h1).mono ?_
    rintro e w1 ⟨rfl, rfl⟩
    go_wp2_with fail
    go_ret3
    refine ⟨⟨_, rfl, ?_⟩, bel_alloc (Below.refl _ _) _⟩
    exact terms_new rfl rfl (by intro t ht; simp at ht; subst ht; exact Nat.le_trans (Pl.extract_le _ _ _) (Nat.le_trans hs (by decide)))
set_option maxRecDepth 100000 in
set_option maxHeartbeats 8000000 in
theorem p_name2 (s : ByteArray) (p : Nat) (w : World) (hs : s.size ≤ 100000000) (hp : p < s.size) (hc : NtsAt s p hp) (hp1 : p + 1 < s.size) (h1 : Hid (true = Pl.digAt 48 s (p + 1))) (hz : ((s[p + 1].toNat : Int) != 48) = true) (h2 : Hid (false = Pl.digAt 48 s (p + 2))) :
    PAt s p w (some [⟨4, 0, s.extract p (p + 2)⟩], p + 2) := by
  have hd := hc.no
  unfold PAt
  rcases hc with ⟨hc, hpe⟩ | ⟨hc, hpe, hno⟩ | hc | hc
  · exfalso; omega
  all_goals
    go_enter Tryz.func57, Tryz.ntmps57
    go_wp2_with fail
    refine (digR_any s p false _ (by omega) hd).mono ?_
    rintro e w1 ⟨rfl, rfl⟩
    go_wp2_with fail
    refine (digR_any s (p + 1) true _ (by omega) h1).mono ?_
    rintro e w1 ⟨rfl, rfl⟩
    go_wp2_with fail
    refine (digR_any s (p + 2) false _ (by omega) h2).mono ?_
    rintro e w1 ⟨rfl, rfl⟩
    go_wp2_with fail
    go_ret3
    refine ⟨⟨_, rfl, ?_⟩, bel_alloc (Below.refl _ _) _⟩
    exact terms_new rfl rfl (by intro t ht; simp at ht; subst ht; exact Nat.le_trans (Pl.extract_le _ _ _) (Nat.le_trans hs (by decide)))
set_option maxRecDepth 100000 in
set_option maxHeartbeats 8000000 in
theorem p_name3 (s : ByteArray) (p : Nat) (w : World) (hs : s.size ≤ 100000000) (hp : p < s.size) (hc : NtsAt s p hp) (hp1 : p + 2 < s.size) (h1 : Hid (true = Pl.digAt 48 s (p + 1))) (hz : ((s[p + 1].toNat : Int) != 48) = true) (h2 : Hid (true = Pl.digAt 48 s (p + 2))) :
    PAt s p w (some [⟨4, 0, s.extract p (p + 3)⟩], p + 3) := by
  have hd := hc.no
  unfold PAt
  rcases hc with ⟨hc, hpe⟩ | ⟨hc, hpe, hno⟩ | hc | hc
  · exfalso; omega
  all_goals
    go_enter Tryz.func57, Tryz.ntmps57
    go_wp2_with fail
    refine (digR_any s p false _ (by omega) hd).mono ?_
    rintro e w1 ⟨rfl, rfl⟩
    go_wp2_with fail
    refine (digR_any s (p + 1) true _ (by omega) h1).mono ?_
    rintro e w1 ⟨rfl, rfl⟩
    go_wp2_with fail
    refine (digR_any s (p + 2) true _ (by omega) h2).mono ?_
    rintro e w1 ⟨rfl, rfl⟩
    go_wp2_with fail
    go_ret3
    refine ⟨⟨_, rfl, ?_⟩, bel_alloc (Below.refl _ _) _⟩
    exact terms_new rfl rfl (by intro t ht; simp at ht; subst ht; exact Nat.le_trans (Pl.extract_le _ _ _) (Nat.le_trans hs (by decide)))
theorem p_name (s : ByteArray) (p : Nat) (w : World) (hs : s.size ≤ 100000000) (hp : p < s.size) (hc : NtsAt s p hp) : PAt s p w (some [⟨4, 0, s.extract p (Pl.nameEnd s p)⟩], Pl.nameEnd s p) := by
  have d48 := Pl.dig48 s (p + 1)
  have d49 := Pl.dig49 s (p + 1)
  have e48 := Pl.dig48 s (p + 2)
  cases h1 : Pl.digAt 48 s (p + 1) with
  | false =>
    have h2 : Pl.digAt 49 s (p + 1) = false := by
      cases e : Pl.digAt 49 s (p + 1) with
      | false => rfl
      | true =>
        have := d49.1 e
        have := d48.2 (by omega)
        rw [h1] at this; cases this
    have e : Pl.nameEnd s p = p + 1 := by unfold Pl.nameEnd; rw [h2]; rfl
    rw [e]
    exact p_name0 s p w hs hp hc (Lib.hid h1.symm)
  | true =>
    have hp1 := Pl.dig_lt h1 (by decide)
    have hpk : Pl.peekB s (p + 1) = s[p + 1] := dif_pos hp1
    have hr := d48.1 h1
    rw [hpk] at hr d49
    by_cases hz : s[p + 1].toNat = 48
    · have h2 : Pl.digAt 49 s (p + 1) = false := by
        cases e : Pl.digAt 49 s (p + 1) with
        | false => rfl
        | true => have := d49.1 e; omega
      have e : Pl.nameEnd s p = p + 1 := by unfold Pl.nameEnd; rw [h2]; rfl
      rw [e]
      exact p_name1 s p w hs hp hc hp1 (Lib.hid h1.symm) (by rw [hz]; rfl)
    · have h2 : Pl.digAt 49 s (p + 1) = true := d49.2 (by omega)
      have hz' : ((s[p + 1].toNat : Int) != 48) = true := by rw [bne_iff_ne]; omega
      cases h3 : Pl.digAt 48 s (p + 2) with
      | false =>
        have e : Pl.nameEnd s p = p + 2 := by unfold Pl.nameEnd; rw [h2, h3]; rfl
        rw [e]
        exact p_name2 s p w hs hp hc hp1 (Lib.hid h1.symm) hz' (Lib.hid h3.symm)
      | true =>
        have e : Pl.nameEnd s p = p + 3 := by unfold Pl.nameEnd; rw [h2, h3]; rfl
        rw [e]
        exact p_name3 s p w hs hp hc (Pl.dig_lt h3 (by decide)) (Lib.hid h1.symm) hz' (Lib.hid h3.symm)

set_option maxRecDepth 100000 in
set_option maxHeartbeats 2000000 in
theorem p_minus (n : Nat) (ih : ParseRAt n) (s : ByteArray) (p : Nat) (R : Option (List Tm) × Nat) (w : World) (hs : s.size ≤ 100000000) (hp : p < s.size) (hf : s.size < p + (n + 1)) (hc : (s[p].toNat : Int) = 45) (HR : Hid (R = Pl.someAll s n [⟨#[45]⟩] ⟨#[]⟩ 5 p)) :
    PAt s p w R := by
  have hpk : Pl.peekB s p = s[p] := dif_pos hp
  have hd : Hid (false = Pl.digAt 48 s p) := Lib.hid (Pl.dig_no (by rw [hpk]; omega)).symm
  have HIH := Lib.hid ih
  clear hpk ih
  unfold PAt
  go_enter Tryz.func57, Tryz.ntmps57
  go_wp2_with fail
  refine (digR_any s p false _ (by omega) hd).mono ?_
  rintro e w1 ⟨rfl, rfl⟩
  go_wp2_with fail
  refine (someR_all n HIH.out s p 5 [⟨#[45]⟩] ⟨#[]⟩ w.heap.size 1 _ hs (by omega) hf (by decide) (by decide) (by decide) (by intro x hx; simp at hx; subst hx; decide) (by decide) (by simp) ?_).mono ?_
  · intro j x hj
    match j, hj with
    | 0, hj => simp at hj; subst hj; simp [go_sem]
  intro e w1 hm
  rw [← HR.out] at hm
  have HB : Hid (Below w.heap.size w w1) := Lib.hid ((below1 w _).trans (hm.2.mono (by simp)))
  obtain ⟨o, q⟩ := R
  cases o with
  | none =>
    obtain ⟨⟨v, rfl⟩, hb⟩ := pr_bad hm
    clear hb hm
    go_wp2_with fail
    go_ret3
    exact ⟨⟨_, rfl⟩, HB.out⟩
  | some ts =>
    obtain ⟨⟨v, rfl, hT⟩, hb⟩ := pr_ok hm
    have HT := Lib.hid hT
    clear hb hm hT
    go_wp2_with fail
    go_ret3
    exact ⟨⟨_, rfl, HT.out⟩, HB.out⟩
set_option maxRecDepth 100000 in
set_option maxHeartbeats 2000000 in
theorem p_not (n : Nat) (ih : ParseRAt n) (s : ByteArray) (p : Nat) (R : Option (List Tm) × Nat) (w : World) (hs : s.size ≤ 100000000) (hp : p < s.size) (hf : s.size < p + (n + 1)) (hc : (s[p].toNat : Int) = 33) (HR : Hid (R = Pl.someAll s n [⟨#[33]⟩] ⟨#[]⟩ 6 p)) :
    PAt s p w R := by
  have hpk : Pl.peekB s p = s[p] := dif_pos hp
  have hd : Hid (false = Pl.digAt 48 s p) := Lib.hid (Pl.dig_no (by rw [hpk]; omega)).symm
  have HIH := Lib.hid ih
  clear hpk ih
  unfold PAt
  go_enter Tryz.func57, Tryz.ntmps57
  go_wp2_with fail
  refine (digR_any s p false _ (by omega) hd).mono ?_
  rintro e w1 ⟨rfl, rfl⟩
  go_wp2_with fail
  refine (someR_all n HIH.out s p 6 [⟨#[33]⟩] ⟨#[]⟩ w.heap.size 1 _ hs (by omega) hf (by decide) (by decide) (by decide) (by intro x hx; simp at hx; subst hx; decide) (by decide) (by simp) ?_).mono ?_
  · intro j x hj
    match j, hj with
    | 0, hj => simp at hj; subst hj; simp [go_sem]
  intro e w1 hm
  rw [← HR.out] at hm
  have HB : Hid (Below w.heap.size w w1) := Lib.hid ((below1 w _).trans (hm.2.mono (by simp)))
  obtain ⟨o, q⟩ := R
  cases o with
  | none =>
    obtain ⟨⟨v, rfl⟩, hb⟩ := pr_bad hm
    clear hb hm
    go_wp2_with fail
    go_ret3
    exact ⟨⟨_, rfl⟩, HB.out⟩
  | some ts =>
    obtain ⟨⟨v, rfl, hT⟩, hb⟩ := pr_ok hm
    have HT := Lib.hid hT
    clear hb hm hT
    go_wp2_with fail
    go_ret3
    exact ⟨⟨_, rfl, HT.out⟩, HB.out⟩
set_option maxRecDepth 100000 in
set_option maxHeartbeats 2000000 in
theorem p_len (n : Nat) (ih : ParseRAt n) (s : ByteArray) (p : Nat) (R : Option (List Tm) × Nat) (w : World) (hs : s.size ≤ 100000000) (hp : p < s.size) (hf : s.size < p + (n + 1)) (hc : (s[p].toNat : Int) = 35) (HR : Hid (R = Pl.someAll s n [⟨#[35]⟩] ⟨#[]⟩ 7 p)) :
    PAt s p w R := by
  have hpk : Pl.peekB s p = s[p] := dif_pos hp
  have hd : Hid (false = Pl.digAt 48 s p) := Lib.hid (Pl.dig_no (by rw [hpk]; omega)).symm
  have HIH := Lib.hid ih
  clear hpk ih
  unfold PAt
  go_enter Tryz.func57, Tryz.ntmps57
  go_wp2_with fail
  refine (digR_any s p false _ (by omega) hd).mono ?_
  rintro e w1 ⟨rfl, rfl⟩
  go_wp2_with fail
  refine (someR_all n HIH.out s p 7 [⟨#[35]⟩] ⟨#[]⟩ w.heap.size 1 _ hs (by omega) hf (by decide) (by decide) (by decide) (by intro x hx; simp at hx; subst hx; decide) (by decide) (by simp) ?_).mono ?_
  · intro j x hj
    match j, hj with
    | 0, hj => simp at hj; subst hj; simp [go_sem]
  intro e w1 hm
  rw [← HR.out] at hm
  have HB : Hid (Below w.heap.size w w1) := Lib.hid ((below1 w _).trans (hm.2.mono (by simp)))
  obtain ⟨o, q⟩ := R
  cases o with
  | none =>
    obtain ⟨⟨v, rfl⟩, hb⟩ := pr_bad hm
    clear hb hm
    go_wp2_with fail
    go_ret3
    exact ⟨⟨_, rfl⟩, HB.out⟩
  | some ts =>
    obtain ⟨⟨v, rfl, hT⟩, hb⟩ := pr_ok hm
    have HT := Lib.hid hT
    clear hb hm hT
    go_wp2_with fail
    go_ret3
    exact ⟨⟨_, rfl, HT.out⟩, HB.out⟩
set_option maxRecDepth 100000 in
set_option maxHeartbeats 2000000 in
theorem p_two (n : Nat) (ih : ParseRAt n) (s : ByteArray) (p : Nat) (R : Option (List Tm) × Nat) (w : World) (hs : s.size ≤ 100000000) (hp : p < s.size) (hf : s.size < p + (n + 1)) (hc : (s[p].toNat : Int) = 40) (HR : Hid (R = Pl.someAll s n [⟨#[40]⟩, ⟨#[]⟩] ⟨#[41]⟩ 0 p)) :
    PAt s p w R := by
  have hpk : Pl.peekB s p = s[p] := dif_pos hp
  have hd : Hid (false = Pl.digAt 48 s p) := Lib.hid (Pl.dig_no (by rw [hpk]; omega)).symm
  have HIH := Lib.hid ih
  clear hpk ih
  unfold PAt
  go_enter Tryz.func57, Tryz.ntmps57
  go_wp2_with fail
  refine (digR_any s p false _ (by omega) hd).mono ?_
  rintro e w1 ⟨rfl, rfl⟩
  go_wp2_with fail
  refine (someR_all n HIH.out s p 0 [⟨#[40]⟩, ⟨#[]⟩] ⟨#[41]⟩ w.heap.size 2 _ hs (by omega) hf (by decide) (by decide) (by decide) (by intro x hx; simp at hx; rcases hx with rfl | rfl <;> decide) (by decide) (by simp) ?_).mono ?_
  · intro j x hj
    match j, hj with
    | 0, hj => simp at hj; subst hj; simp [go_sem]
    | 1, hj => simp at hj; subst hj; simp [go_sem]
  intro e w1 hm
  rw [← HR.out] at hm
  have HB : Hid (Below w.heap.size w w1) := Lib.hid ((below1 w _).trans (hm.2.mono (by simp)))
  obtain ⟨o, q⟩ := R
  cases o with
  | none =>
    obtain ⟨⟨v, rfl⟩, hb⟩ := pr_bad hm
    clear hb hm
    go_wp2_with fail
    go_ret3
    exact ⟨⟨_, rfl⟩, HB.out⟩
  | some ts =>
    obtain ⟨⟨v, rfl, hT⟩, hb⟩ := pr_ok hm
    have HT := Lib.hid hT
    clear hb hm hT
    go_wp2_with fail
    go_ret3
    exact ⟨⟨_, rfl, HT.out⟩, HB.out⟩
set_option maxRecDepth 100000 in
set_option maxHeartbeats 2000000 in
theorem p_three (n : Nat) (ih : ParseRAt n) (s : ByteArray) (p : Nat) (R : Option (List Tm) × Nat) (w : World) (hs : s.size ≤ 100000000) (hp : p < s.size) (hf : s.size < p + (n + 1)) (hc : (s[p].toNat : Int) = 63) (HR : Hid (R = Pl.someAll s n [⟨#[63, 40]⟩, ⟨#[44]⟩, ⟨#[44]⟩] ⟨#[41]⟩ 17 p)) :
    PAt s p w R := by
  have hpk : Pl.peekB s p = s[p] := dif_pos hp
  have hd : Hid (false = Pl.digAt 48 s p) := Lib.hid (Pl.dig_no (by rw [hpk]; omega)).symm
  have HIH := Lib.hid ih
  clear hpk ih
  unfold PAt
  go_enter Tryz.func57, Tryz.ntmps57
  go_wp2_with fail
  refine (digR_any s p false _ (by omega) hd).mono ?_
  rintro e w1 ⟨rfl, rfl⟩
  go_wp2_with fail
  refine (someR_all n HIH.out s p 17 [⟨#[63, 40]⟩, ⟨#[44]⟩, ⟨#[44]⟩] ⟨#[41]⟩ w.heap.size 3 _ hs (by omega) hf (by decide) (by decide) (by decide) (by intro x hx; simp at hx; rcases hx with rfl | rfl <;> decide) (by decide) (by simp) ?_).mono ?_
  · intro j x hj
    match j, hj with
    | 0, hj => simp at hj; subst hj; simp [go_sem]
    | 1, hj => simp at hj; subst hj; simp [go_sem]
    | 2, hj => simp at hj; subst hj; simp [go_sem]
  intro e w1 hm
  rw [← HR.out] at hm
  have HB : Hid (Below w.heap.size w w1) := Lib.hid ((below1 w _).trans (hm.2.mono (by simp)))
  obtain ⟨o, q⟩ := R
  cases o with
  | none =>
    obtain ⟨⟨v, rfl⟩, hb⟩ := pr_bad hm
    clear hb hm
    go_wp2_with fail
    go_ret3
    exact ⟨⟨_, rfl⟩, HB.out⟩
  | some ts =>
    obtain ⟨⟨v, rfl, hT⟩, hb⟩ := pr_ok hm
    have HT := Lib.hid hT
    clear hb hm hT
    go_wp2_with fail
    go_ret3
    exact ⟨⟨_, rfl, HT.out⟩, HB.out⟩
set_option maxRecDepth 100000 in
set_option maxHeartbeats 2000000 in
theorem p_other (s : ByteArray) (p : Nat) (w : World) (hs : s.size ≤ 100000000) (hp : p < s.size) (h0 : ¬ (48 ≤ (s[p].toNat : Int) ∧ (s[p].toNat : Int) ≤ 57))
    (h1 : ((s[p].toNat : Int) == 121) = false) (h2 : ((s[p].toNat : Int) == 110) = false) (h3 : ((s[p].toNat : Int) == 116) = false) (h4 : ((s[p].toNat : Int) == 115) = false) (h5 : ((s[p].toNat : Int) == 39) = false) (h6 : ((s[p].toNat : Int) == 45) = false)
    (h7 : ((s[p].toNat : Int) == 33) = false) (h8 : ((s[p].toNat : Int) == 35) = false) (h9 : ((s[p].toNat : Int) == 40) = false) (h10 : ((s[p].toNat : Int) == 63) = false) : PAt s p w (none, p) := by
  have hpk : Pl.peekB s p = s[p] := dif_pos hp
  have hd : Hid (false = Pl.digAt 48 s p) := Lib.hid (Pl.dig_no (by rw [hpk]; omega)).symm
  clear hpk h0
  unfold PAt
  go_enter Tryz.func57, Tryz.ntmps57
  go_wp2_with fail
  refine (digR_any s p false _ (by omega) hd).mono ?_
  rintro e w1 ⟨rfl, rfl⟩
  go_wp2_with fail
  go_ret3
  exact ⟨⟨_, rfl⟩, Below.refl _ _⟩
theorem Pl.tEnd_step {s : ByteArray} {k : Nat} (hk : k < s.size) (h : Pl.plainB (Pl.peekB s k) = true) : Pl.textEnd s s.size k = Pl.textEnd s s.size (k + 1) := by
  obtain ⟨m, hm⟩ : ∃ m, s.size = m + 1 := ⟨s.size - 1, by omega⟩
  have h1 : Pl.textEnd s (m + 1) k = Pl.textEnd s m (k + 1) := by
    show (if k < s.size ∧ Pl.plainB (Pl.peekB s k) = true then Pl.textEnd s m (k + 1) else k) = _
    rw [if_pos ⟨hk, h⟩]
  rw [hm, h1]
  exact Pl.textEnd_fuel s _ _ _ (by omega) (by omega)
theorem Pl.tEnd_stop {s : ByteArray} {k : Nat} (n : Nat) (h : ¬ (k < s.size ∧ Pl.plainB (Pl.peekB s k) = true)) : Pl.textEnd s n k = k := by
  cases n with
  | zero => rfl
  | succ n => exact if_neg h
set_option maxRecDepth 100000 in
set_option maxHeartbeats 4000000 in
theorem p_text (s : ByteArray) (p E : Nat) (R : Option (List Tm) × Nat) (w : World) (hs : s.size ≤ 100000000) (hp : p < s.size) (hc : (s[p].toNat : Int) = 39) (HE : Hid (E = Pl.textEnd s s.size (p + 1))) (HR : Hid (R = if E < s.size ∧ Pl.peekB s E = 39 then (some [⟨3, 0, s.extract (p + 1) E⟩], E + 1) else (none, E))) :
    PAt s p w R := by
  have hpk : Pl.peekB s p = s[p] := dif_pos hp
  have hd : Hid (false = Pl.digAt 48 s p) := Lib.hid (Pl.dig_no (by rw [hpk]; omega)).symm
  clear hpk
  unfold PAt
  go_enter Tryz.func57, Tryz.ntmps57
  go_wp2_with fail
  refine (digR_any s p false _ (by omega) hd).mono ?_
  rintro e w1 ⟨rfl, rfl⟩
  go_wp2_with fail
  go_loop [13] (fun s13 => ∃ k : Nat, p + 1 ≤ k ∧ k ≤ s.size ∧ s13 = .int .i64 k ∧ Hid (E = Pl.textEnd s s.size k)) (fun s13 => s.size - (intOf s13).toNat)
  case atStart => exact ⟨p + 1, Nat.le_refl _, by omega, rfl, HE⟩
  case round =>
    obtain ⟨k, hk, hks, rfl, HK⟩ := hrel
    by_cases hlt : k < s.size
    · have hpk : Pl.peekB s k = s[k] := dif_pos hlt
      have hq := Pl.plainB_not s[k]
      by_cases h39 : (s[k].toNat : Int) = 39
      · have h5 : ((s[k].toNat : Int) == 39) = true := by simpa using h39
        have hpl : Pl.plainB s[k] = false := hq.1 (.inr (.inr h39))
        obtain rfl : E = k := by rw [HK.out, Pl.tEnd_stop _ (by rw [hpk, hpl]; simp)]
        have hRR : R = (some [⟨3, 0, s.extract (p + 1) E⟩], E + 1) := by rw [HR.out, if_pos ⟨hlt, by rw [hpk]; exact UInt8.toNat_inj.1 (by simpa using (by omega : s[E].toNat = 39))⟩]
        have HRR := Lib.hid hRR
        clear HR HK HE hq hpl hpk hRR
        go_wp2_with fail
        go_ret3
        rw [HRR.out]
        refine ⟨⟨_, rfl, ?_⟩, bel_alloc (Below.refl _ _) _⟩
        exact terms_new rfl rfl (by intro t ht; simp at ht; subst ht; exact Nat.le_trans (Pl.extract_le _ _ _) (Nat.le_trans hs (by decide)))
      · have h5 : ((s[k].toNat : Int) == 39) = false := by simpa using h39
        by_cases hpl : Pl.plainB s[k] = true
        · have h1 : ¬ ((s[k].toNat : Int) < 32) := fun h => by have := hq.1 (.inl h); rw [hpl] at this; cases this
          have h2 : ¬ ((126 : Int) < s[k].toNat) := fun h => by have := hq.1 (.inr (.inl h)); rw [hpl] at this; cases this
          have HK2 : Hid (E = Pl.textEnd s s.size (k + 1)) := Lib.hid (by rw [HK.out]; exact Pl.tEnd_step hlt (by rw [hpk]; exact hpl))
          clear hpl hq HK hpk
          go_wp2_with fail
          go_round
          case rel => exact ⟨k + 1, by omega, by omega, by go_num, HK2⟩
          case measure => simp [intOf]; omega
        · have hpf : Pl.plainB s[k] = false := by simpa using hpl
          have h4 := hq.2 hpf
          obtain rfl : E = k := by rw [HK.out, Pl.tEnd_stop _ (by rw [hpk, hpf]; simp)]
          have hRR : R = (none, E) := by
            rw [HR.out, if_neg]
            rintro ⟨_, h⟩
            rw [hpk] at h
            rw [h] at h39
            exact h39 rfl
          have HRR := Lib.hid hRR
          clear HR HK HE hq hpl hpf hpk hRR
          rcases h4 with h4 | h4 | h4
          · go_wp2_with fail
            go_ret3
            rw [HRR.out]
            exact ⟨⟨_, rfl⟩, Below.refl _ _⟩
          · have h6 : ¬ ((s[E].toNat : Int) < 32) := by omega
            go_wp2_with fail
            go_ret3
            rw [HRR.out]
            exact ⟨⟨_, rfl⟩, Below.refl _ _⟩
          · exact absurd h4 h39
    · obtain rfl : k = s.size := by omega
      obtain rfl : E = s.size := by rw [HK.out, Pl.tEnd_stop _ (by omega)]
      have HRR : Hid (R = (none, s.size)) := Lib.hid (by rw [HR.out, if_neg (by omega)])
      go_wp2_with fail
      go_ret3
      rw [HRR.out]
      exact ⟨⟨_, rfl⟩, Below.refl _ _⟩
end Go.Proofs.YtchoelgkcnnnkaaGreatDoor
set_option linter.all false
namespace Go.Proofs.YtchoelgkcnnnkaaGreatDoor
open Go.RowKit
theorem parseR_all : ∀ n : Nat, ParseRAt n
  | 0, s, p, w, _, hp, hf => by omega
  | n + 1, s, p, w, hs, hp, hf => by
    have ih := parseR_all n
    show PAt s p w (Pl.rdT (Pl.rd s (n + 1) p))
    by_cases hps : p = s.size
    · rw [Pl.rd_end (by omega)]
      exact p_end s p w hs hps
    have hlt : p < s.size := by omega
    have hpk : Pl.peekB s p = s[p] := dif_pos hlt
    by_cases hd : Pl.digAt 48 s p = true
    · rw [Pl.rd_dig hlt hd]
      obtain ⟨h1, h2⟩ := Pl.number_digs hd
      have hx := Pl.numR_num h2 h1
      show PAt s p w (some [Pl.clampT ⟨1, Pl.numVal (s.extract p (Pl.numEndOf s p)).data.toList, ⟨#[]⟩⟩], Pl.numEndOf s p)
      rw [show Pl.clampT ⟨1, Pl.numVal (s.extract p (Pl.numEndOf s p)).data.toList, ⟨#[]⟩⟩ = ⟨1, min (Pl.numVal (s.extract p (Pl.numEndOf s p)).data.toList) 1000000000001, ⟨#[]⟩⟩ from if_pos rfl, ← hx]
      exact p_dig s p _ _ w hs hlt (Lib.hid hd) (Lib.hid rfl) (Lib.hid rfl)
    have hnd : ¬ (48 ≤ (Pl.peekB s p).toNat ∧ (Pl.peekB s p).toNat ≤ 57) := fun h => hd ((Pl.dig48 s p).2 h)
    by_cases c1 : (Pl.peekB s p).toNat = 121
    · rw [Pl.rd_121 hlt c1]
      obtain ⟨o, ho⟩ : ∃ o, o = Pl.wantFail s [121, 101, 115] p := ⟨_, rfl⟩
      have := p_yes s p o w hs hlt (by rw [← hpk]; omega) (Lib.hid ho)
      unfold Pl.word
      rw [← ho]
      cases o with
      | none => exact this
      | some q => exact this
    by_cases c2 : (Pl.peekB s p).toNat = 110 ∧ (Pl.peekB s (p + 1)).toNat = 111
    · rw [Pl.rd_no hlt c2.1 c2.2]
      have h1 : p + 1 < s.size := Pl.peek_lt' c2.2 (by decide)
      have hpk1 : Pl.peekB s (p + 1) = s[p + 1] := dif_pos h1
      exact p_no s p w hs h1 (by rw [← hpk]; omega) (by rw [← hpk1]; omega)
    by_cases c3 : (Pl.peekB s p).toNat = 110 ∨ (Pl.peekB s p).toNat = 116 ∨ (Pl.peekB s p).toNat = 115
    · rw [Pl.rd_nts hlt c3 c2]
      refine p_name s p w hs hlt ?_
      rcases c3 with c3 | c3 | c3
      · by_cases h1 : p + 1 < s.size
        · refine .inr (.inl ⟨by rw [← hpk]; omega, h1, ?_⟩)
          have hpk1 : Pl.peekB s (p + 1) = s[p + 1] := dif_pos h1
          rw [beq_eq_false_iff_ne]
          intro e
          exact c2 ⟨c3, by rw [hpk1]; omega⟩
        · exact .inl ⟨by rw [← hpk]; omega, by omega⟩
      · exact .inr (.inr (.inl (by rw [← hpk]; omega)))
      · exact .inr (.inr (.inr (by rw [← hpk]; omega)))
    by_cases c4 : (Pl.peekB s p).toNat = 39
    · rw [Pl.rd_39 hlt c4]
      refine p_text s p _ _ w hs hlt (by rw [← hpk]; omega) (Lib.hid rfl) (Lib.hid ?_)
      unfold Pl.word
      by_cases h : Pl.textEnd s s.size (p + 1) < s.size ∧ Pl.peekB s (Pl.textEnd s s.size (p + 1)) = 39
      · have h1 : Pl.wantFail s [39] (Pl.textEnd s s.size (p + 1)) = none := Pl.want_byte h.1 h.2
        rw [if_pos h, h1]; rfl
      · have h1 : Pl.wantFail s [39] (Pl.textEnd s s.size (p + 1)) = some (Pl.textEnd s s.size (p + 1)) := by unfold Pl.wantFail; rw [if_neg h]
        rw [if_neg h, h1]; rfl
    have hlow := Pl.rd_low (n := n) hlt rfl hnd c1 (fun h => c3 (.inl h)) (fun h => c3 (.inr (.inl h))) (fun h => c3 (.inr (.inr h))) c4
    by_cases c5 : (Pl.peekB s p).toNat = 45
    · rw [if_pos c5] at hlow
      exact p_minus n ih s p _ w hs hlt (by omega) (by rw [← hpk]; omega) (Lib.hid (Pl.some_un 45 5 hlt (Pl.peek_of c5 rfl) (by decide) hlow).symm)
    rw [if_neg c5] at hlow
    by_cases c6 : (Pl.peekB s p).toNat = 33
    · rw [if_pos c6] at hlow
      exact p_not n ih s p _ w hs hlt (by omega) (by rw [← hpk]; omega) (Lib.hid (Pl.some_un 33 6 hlt (Pl.peek_of c6 rfl) (by decide) hlow).symm)
    rw [if_neg c6] at hlow
    by_cases c7 : (Pl.peekB s p).toNat = 35
    · rw [if_pos c7] at hlow
      exact p_len n ih s p _ w hs hlt (by omega) (by rw [← hpk]; omega) (Lib.hid (Pl.some_un 35 7 hlt (Pl.peek_of c7 rfl) (by decide) hlow).symm)
    rw [if_neg c7] at hlow
    by_cases c8 : (Pl.peekB s p).toNat = 40
    · rw [if_pos c8] at hlow
      exact p_two n ih s p _ w hs hlt (by omega) (by rw [← hpk]; omega) (Lib.hid (Pl.some_bi hlt (Pl.peek_of c8 rfl) hlow).symm)
    rw [if_neg c8] at hlow
    by_cases c9 : (Pl.peekB s p).toNat = 63
    · rw [if_pos c9] at hlow
      exact p_three n ih s p _ w hs hlt (by omega) (by rw [← hpk]; omega) (Lib.hid (Pl.some_tr hlow).symm)
    rw [if_neg c9] at hlow
    rw [hlow]
    have ne : ∀ b : Nat, (Pl.peekB s p).toNat ≠ b → ((s[p].toNat : Int) == (b : Int)) = false := fun b hb => by
      rw [beq_eq_false_iff_ne]; intro e; rw [← hpk] at e; omega
    exact p_other s p w hs hlt (by rw [← hpk]; omega) (ne 121 c1) (ne 110 fun h => c3 (.inl h)) (ne 116 fun h => c3 (.inr (.inl h))) (ne 115 fun h => c3 (.inr (.inr h))) (ne 39 c4) (ne 45 c5) (ne 33 c6) (ne 35 c7) (ne 40 c8) (ne 63 c9)
set_option maxRecDepth 100000 in
set_option maxHeartbeats 2000000 in
/-- Parse of the reference. -/
theorem parseR_par (s : ByteArray) (hs : s.size ≤ 100000000) (n : Nat) (hn : s.size < n) (w : World) : Calls Tryz.prog 23 #[.string s] w (ParsePost (Pl.par n s) w) := by
  have HP := Lib.hid (parseR_all n)
  obtain ⟨R, hR⟩ : ∃ R, R = Pl.par n s := ⟨_, rfl⟩
  rw [← hR]
  have HR := Lib.hid hR
  clear hR
  go_enter Tryz.func23, Tryz.ntmps23
  go_wp2_with fail
  refine (HP.out s 0 _ hs (Nat.zero_le _) (by omega)).mono ?_
  intro e w1 hm
  cases hr : Pl.rd s n 0 with
  | bad q =>
    rw [hr] at hm
    obtain ⟨⟨v, rfl⟩, hb⟩ := pr_bad hm
    have HB := Lib.hid hb
    have HN : Hid (R = (none, q)) := Lib.hid (by rw [HR.out, Pl.par, hr])
    clear hb hm hr
    go_wp2_with fail
    go_ret3
    rw [HN.out]
    exact ⟨rfl, HB.out⟩
  | ok f q =>
    rw [hr] at hm
    obtain ⟨⟨v, rfl, hT⟩, hb⟩ := pr_ok hm
    have hbd := Pl.rd_bounds s n 0 (Nat.zero_le _)
    rw [hr] at hbd
    obtain ⟨d1, d2, d3⟩ := hbd
    have HB := Lib.hid hb
    obtain ⟨ts, hts⟩ : ∃ ts, ts = f.flat.map Pl.clampT := ⟨_, rfl⟩
    rw [← hts] at hT
    have hlen : ts.length = f.flat.length := by rw [hts, List.length_map]
    have HT := Lib.hid hT
    have hl2 : ts.length ≤ 100000000 := by omega
    clear hlen d3
    by_cases hq : q < s.size
    · have HN : Hid (R = (none, q)) := Lib.hid (by rw [HR.out, Pl.par, hr]; simp [hq])
      clear hb hm hr hT
      go_wp2_with fail
      go_ret3
      rw [HN.out]
      exact ⟨rfl, HB.out⟩
    · obtain rfl : q = s.size := by omega
      cases hv : Pl.validB f.flat with
      | false =>
        have HN : Hid (R = (none, s.size)) := Lib.hid (by rw [HR.out, Pl.par, hr]; simp [hv])
        have HV : Hid (false = Pl.validB ts) := Lib.hid (by rw [hts, Pl.validB_clamp, hv])
        clear hb hm hr hT hv hts
        obtain ⟨fa, fc, rfl, _⟩ := HT.out
        go_wp2_with fail
        refine (validR_any _ ts false _ HT.out (by omega) HV).mono ?_
        rintro e w2 ⟨rfl, hb2⟩
        have HB2 := Lib.hid (HB.out.trans (hb2.mono HB.out.size))
        clear hb2
        go_wp2_with fail
        go_ret3
        rw [HN.out]
        exact ⟨rfl, HB2.out⟩
      | true =>
        have HN : Hid (R = (some f, s.size)) := Lib.hid (by rw [HR.out, Pl.par, hr]; simp [hv])
        have HV : Hid (true = Pl.validB ts) := Lib.hid (by rw [hts, Pl.validB_clamp, hv])
        have HTS : Hid (ts = f.flat) := Lib.hid (by rw [hts, Pl.clamp_valid hv])
        clear hb hm hr hT hv hts
        obtain ⟨fa, fc, rfl, _⟩ := HT.out
        go_wp2_with fail
        refine (validR_any _ ts true _ HT.out (by omega) HV).mono ?_
        rintro e w2 ⟨rfl, hb2⟩
        have HB2 := Lib.hid (HB.out.trans (hb2.mono HB.out.size))
        have HT2 := Lib.hid (HT.out.below hb2)
        clear hb2
        go_wp2_with fail
        go_ret3
        rw [HN.out]
        exact ⟨⟨_, rfl, by rw [← HTS.out]; exact HT2.out⟩, HB2.out⟩
end Go.Proofs.YtchoelgkcnnnkaaGreatDoor
