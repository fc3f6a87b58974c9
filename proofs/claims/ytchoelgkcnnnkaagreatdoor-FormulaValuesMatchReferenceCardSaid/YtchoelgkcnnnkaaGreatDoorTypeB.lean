/- WALK: formula.rules. · WALK: formula.typed. -/
import Derived.Test.YtchoelgkcnnnkaaGreatDoorDepths
set_option linter.all false
namespace Go.Proofs.YtchoelgkcnnnkaaGreatDoor
open Go.RowKit

namespace Pl
def rulesOf (k : Int) : List (List UInt8 × Int) :=
  if k = 5 then [([110], 1)] else if k = 6 then [([116], 2)] else if k = 7 then [([115], 1)] else if k = 8 then [([110, 110], 1), ([115, 115], 3)]
  else if k = 13 then [([110, 110], 2), ([116, 116], 2), ([115, 115], 2)] else if k = 14 then [([110, 110], 2), ([115, 115], 2)] else if k = 15 ∨ k = 16 then [([116, 116], 2)]
  else if k = 17 then [([116, 110, 110], 1), ([116, 116, 116], 2), ([116, 115, 115], 3)] else [([110, 110], 1)]
end Pl
def RuleRow (w : World) (g : Nat) (rs : List (List UInt8 × Int)) : Prop :=
  ∀ j r, rs[j]? = some r → w.cell? ⟨g, j * 2, none⟩ = some (.string (mkS r.1)) ∧ w.cell? ⟨g, j * 2 + 1, none⟩ = some (.int .i64 r.2)

def RulesPost (k : Int) (w : World) (e : Ending) (w' : World) : Prop :=
  ∃ g, e = .returned (.slice (some ⟨g, 0, none⟩) (Pl.rulesOf k).length (Pl.rulesOf k).length) ∧ RuleRow w' g (Pl.rulesOf k) ∧ w.heap.size ≤ g ∧ g < w'.heap.size ∧ Below w.heap.size w w'

theorem rules_new (k : Int) (w : World) (cs : Array Value) (h : ∀ j r, (Pl.rulesOf k)[j]? = some r → cs[j * 2]? = some (.string (mkS r.1)) ∧ cs[j * 2 + 1]? = some (.int .i64 r.2)) (n : Nat) (hn : n = (Pl.rulesOf k).length) :
    RulesPost k w (.returned (.slice (some ⟨w.heap.size, 0, none⟩) n n)) (w.alloc (.cells cs 119)) := by
  subst hn
  refine ⟨w.heap.size, rfl, fun j r hj => ?_, Nat.le_refl _, by simp, below1 _ _⟩
  obtain ⟨h1, h2⟩ := h j r hj
  exact ⟨by simpa using h1, by simpa using h2⟩
set_option maxRecDepth 100000 in
set_option maxHeartbeats 2000000 in
theorem rules_any (k : Int) (w : World) : Calls Tryz.prog 73 #[.int .i64 k] w (RulesPost k w) := by
  by_cases h5 : k = 5
  · subst h5
    go_enter Tryz.func73, Tryz.ntmps73
    go_wp2
    go_ret
    refine rules_new 5 w _ (fun j r hj => ?_) _ (by simp [Pl.rulesOf])
    match j, hj with
      | 0, hj => simp [Pl.rulesOf] at hj; subst hj; exact ⟨rfl, rfl⟩
      | j + 1, hj => simp [Pl.rulesOf] at hj
  by_cases h6 : k = 6
  · subst h6
    go_enter Tryz.func73, Tryz.ntmps73
    go_wp2
    go_ret
    refine rules_new 6 w _ (fun j r hj => ?_) _ (by simp [Pl.rulesOf])
    match j, hj with
      | 0, hj => simp [Pl.rulesOf] at hj; subst hj; exact ⟨rfl, rfl⟩
      | j + 1, hj => simp [Pl.rulesOf] at hj
  by_cases h7 : k = 7
  · subst h7
    go_enter Tryz.func73, Tryz.ntmps73
    go_wp2
    go_ret
    refine rules_new 7 w _ (fun j r hj => ?_) _ (by simp [Pl.rulesOf])
    match j, hj with
      | 0, hj => simp [Pl.rulesOf] at hj; subst hj; exact ⟨rfl, rfl⟩
      | j + 1, hj => simp [Pl.rulesOf] at hj
  by_cases h8 : k = 8
  · subst h8
    go_enter Tryz.func73, Tryz.ntmps73
    go_wp2
    go_ret
    refine rules_new 8 w _ (fun j r hj => ?_) _ (by simp [Pl.rulesOf])
    match j, hj with
      | 0, hj => simp [Pl.rulesOf] at hj; subst hj; exact ⟨rfl, rfl⟩
      | 1, hj => simp [Pl.rulesOf] at hj; subst hj; exact ⟨rfl, rfl⟩
      | j + 2, hj => simp [Pl.rulesOf] at hj
  by_cases h13 : k = 13
  · subst h13
    go_enter Tryz.func73, Tryz.ntmps73
    go_wp2
    go_ret
    refine rules_new 13 w _ (fun j r hj => ?_) _ (by simp [Pl.rulesOf])
    match j, hj with
      | 0, hj => simp [Pl.rulesOf] at hj; subst hj; exact ⟨rfl, rfl⟩
      | 1, hj => simp [Pl.rulesOf] at hj; subst hj; exact ⟨rfl, rfl⟩
      | 2, hj => simp [Pl.rulesOf] at hj; subst hj; exact ⟨rfl, rfl⟩
      | j + 3, hj => simp [Pl.rulesOf] at hj
  by_cases h14 : k = 14
  · subst h14
    go_enter Tryz.func73, Tryz.ntmps73
    go_wp2
    go_ret
    refine rules_new 14 w _ (fun j r hj => ?_) _ (by simp [Pl.rulesOf])
    match j, hj with
      | 0, hj => simp [Pl.rulesOf] at hj; subst hj; exact ⟨rfl, rfl⟩
      | 1, hj => simp [Pl.rulesOf] at hj; subst hj; exact ⟨rfl, rfl⟩
      | j + 2, hj => simp [Pl.rulesOf] at hj
  by_cases h15 : k = 15
  · subst h15
    go_enter Tryz.func73, Tryz.ntmps73
    go_wp2
    go_ret
    refine rules_new 15 w _ (fun j r hj => ?_) _ (by simp [Pl.rulesOf])
    match j, hj with
      | 0, hj => simp [Pl.rulesOf] at hj; subst hj; exact ⟨rfl, rfl⟩
      | j + 1, hj => simp [Pl.rulesOf] at hj
  by_cases h16 : k = 16
  · subst h16
    go_enter Tryz.func73, Tryz.ntmps73
    go_wp2
    go_ret
    refine rules_new 16 w _ (fun j r hj => ?_) _ (by simp [Pl.rulesOf])
    match j, hj with
      | 0, hj => simp [Pl.rulesOf] at hj; subst hj; exact ⟨rfl, rfl⟩
      | j + 1, hj => simp [Pl.rulesOf] at hj
  by_cases h17 : k = 17
  · subst h17
    go_enter Tryz.func73, Tryz.ntmps73
    go_wp2
    go_ret
    refine rules_new 17 w _ (fun j r hj => ?_) _ (by simp [Pl.rulesOf])
    match j, hj with
      | 0, hj => simp [Pl.rulesOf] at hj; subst hj; exact ⟨rfl, rfl⟩
      | 1, hj => simp [Pl.rulesOf] at hj; subst hj; exact ⟨rfl, rfl⟩
      | 2, hj => simp [Pl.rulesOf] at hj; subst hj; exact ⟨rfl, rfl⟩
      | j + 3, hj => simp [Pl.rulesOf] at hj
  have hr : Pl.rulesOf k = [([110, 110], 1)] := by simp [Pl.rulesOf, h5, h6, h7, h8, h13, h14, h15, h16, h17]
  go_enter Tryz.func73, Tryz.ntmps73
  go_wp2
  go_ret
  refine rules_new k w _ (fun j r hj => ?_) _ (by rw [hr]; rfl)
  rw [hr] at hj
  match j, hj with
    | 0, hj => simp at hj; subst hj; exact ⟨rfl, rfl⟩
    | j + 1, hj => simp at hj
end Go.Proofs.YtchoelgkcnnnkaaGreatDoor
namespace Go.Proofs.YtchoelgkcnnnkaaGreatDoor
open Go.RowKit

namespace Pl
def letterOf (x : Int) : UInt8 := if x = 1 then 110 else if x = 2 then 116 else 115
def look : List (List UInt8 × Int) → List UInt8 → Int
  | [], _ => 0
  | r :: rs, l => if r.1 = l then r.2 else look rs l
def typedOf (t : Tm) (xs : List Int) : Int := if t.k = 1 ∨ t.k = 2 ∨ t.k = 3 then t.k else if t.k = 4 then typeOf t.s.data.toList else look (rulesOf t.k) (xs.map letterOf)
theorem look_drop {rs : List (List UInt8 × Int)} {l : List UInt8} : ∀ {j : Nat}, (∀ i r, i < j → rs[i]? = some r → r.1 ≠ l) → look rs l = look (rs.drop j) l := by
  induction rs with
  | nil => intro j _; simp [look]
  | cons r rs ih =>
    intro j h
    cases j with
    | zero => rfl
    | succ j =>
      rw [List.drop_succ_cons, look, if_neg (h 0 r (by omega) rfl)]
      exact ih (fun i r' hi hr => h (i + 1) r' (by omega) (by simpa using hr))
end Pl
/-- A slice of ints that reads as a list. -/
def IntsIn (w : World) (v : Value) (xs : List Int) : Prop :=
  ∃ a c, v = .slice a xs.length c ∧ xs.length ≤ c ∧ (xs ≠ [] → ∃ b, a = some ⟨b, 0, none⟩ ∧ b < w.heap.size ∧ ∀ j x, xs[j]? = some x → w.cell? ⟨b, j, none⟩ = some (.int .i64 x))

set_option maxRecDepth 100000 in
set_option maxHeartbeats 2000000 in
theorem typed_any (t : Tm) (v : Value) (xs : List Int) (w : World) (h : IntsIn w v xs) (hs : t.s.size ≤ 9223372036854775807) (hl : xs.length ≤ 60) (hx : ∀ x ∈ xs, 1 ≤ x ∧ x ≤ 3) (r : Int) (HR : Hid (r = Pl.typedOf t xs)) :
    Calls Tryz.prog 51 #[t.agg, v] w fun e w' => e = .returned (.int .i64 r) ∧ Below w.heap.size w w' := by
  obtain ⟨k, n, s⟩ := t
  obtain ⟨a, c, rfl, hc, hcell⟩ := h
  unfold Tm.agg
  dsimp only at hs ⊢
  by_cases h1 : k = 1 ∨ k = 2 ∨ k = 3
  · have : r = k := by rw [HR.out]; simp only [Pl.typedOf]; rw [if_pos h1]
    subst this
    rcases h1 with rfl | rfl | rfl
    · go_enter Tryz.func51, Tryz.ntmps51
      go_wp2
      go_ret
      exact ⟨rfl, below1 _ _⟩
    · go_enter Tryz.func51, Tryz.ntmps51
      go_wp2
      go_ret
      exact ⟨rfl, below1 _ _⟩
    · go_enter Tryz.func51, Tryz.ntmps51
      go_wp2
      go_ret
      exact ⟨rfl, below1 _ _⟩
  · by_cases h4 : k = 4
    · subst h4
      have HR2 : Hid (r = Pl.typeOf s.data.toList) := Lib.hid (by rw [HR.out]; simp [Pl.typedOf])
      go_enter Tryz.func51, Tryz.ntmps51
      go_wp2_with (go_at_call 25; refine (typeOf_any _ _ hs).mono ?_; rintro e w' ⟨rfl, hb⟩; have Hb := Lib.hid hb; clear hb)
      go_ret
      exact ⟨ret_int (by rw [HR2.out]), (below1 _ _).trans (Hb.out.mono (by simp))⟩
    · have HR2 : Hid (r = Pl.look (Pl.rulesOf k) (xs.map Pl.letterOf)) := Lib.hid (by rw [HR.out]; simp only [Pl.typedOf]; rw [if_neg h1, if_neg h4])
      have e1 : (k == 1) = false := by simp; omega
      have e2 : (k == 2) = false := by simp; omega
      have e3 : (k == 3) = false := by simp; omega
      have e4 : (k == 4) = false := by simp; omega
      have HX := Lib.hid hx
      have HC := Lib.hid hcell
      clear HR hx hcell
      go_enter Tryz.func51, Tryz.ntmps51
      go_wp2
      go_loopw [5, 7, 25] (fun l _ i wr => ∃ j : Nat, j ≤ xs.length ∧ i = .int .i64 j ∧ l = .string (mkS ((xs.take j).map Pl.letterOf)) ∧ wr = w.alloc (.cells #[.int .i64 k, .int .i64 n, .string s] 24))
        (fun _ _ i _ => xs.length - (intOf i).toNat)
      case atStart => exact ⟨0, Nat.zero_le _, rfl, rfl, rfl⟩
      case round =>
        obtain ⟨j, hj, rfl, rfl, rfl⟩ := hrel
        by_cases hjl : j < xs.length
        · obtain ⟨x, hxj⟩ : ∃ x, xs[j]? = some x := ⟨xs[j], by simp⟩
          obtain ⟨b, rfl, hbw, hcc⟩ := HC.out (by intro h; rw [h] at hjl; simp at hjl)
          have hcx := hcc j x hxj
          have hx13 := HX.out x (List.mem_of_getElem? hxj)
          have hx3 : x = 1 ∨ x = 2 ∨ x = 3 := by omega
          have HT := Lib.hid (show xs.take (j + 1) = xs.take j ++ [x] by rw [List.take_add_one, hxj]; rfl)
          clear hcc hxj hx13
          obtain ⟨L, hL⟩ : ∃ L, L = mkS ((xs.take j).map Pl.letterOf) := ⟨_, rfl⟩
          rw [← hL]
          have hLs : L.size ≤ 60 := by rw [hL, mkS_size]; simp; omega
          have HL := Lib.hid hL
          clear hL
          rcases hx3 with rfl | rfl | rfl
          · go_wp2
            go_roundw
            case rel => exact ⟨j + 1, by omega, by go_num, by rw [HT.out, HL.out]; exact congrArg Value.string (bytes_ext (by simp [mkS, Pl.letterOf])), trivial⟩
            case measure => simp [intOf]; omega
          · go_wp2
            go_roundw
            case rel => exact ⟨j + 1, by omega, by go_num, by rw [HT.out, HL.out]; exact congrArg Value.string (bytes_ext (by simp [mkS, Pl.letterOf])), trivial⟩
            case measure => simp [intOf]; omega
          · go_wp2
            go_roundw
            case rel => exact ⟨j + 1, by omega, by go_num, by rw [HT.out, HL.out]; exact congrArg Value.string (bytes_ext (by simp [mkS, Pl.letterOf])), trivial⟩
            case measure => simp [intOf]; omega
        · obtain rfl : j = xs.length := by omega
          rw [List.take_length]
          obtain ⟨rs, hrs⟩ : ∃ rs, rs = Pl.rulesOf k := ⟨_, rfl⟩
          have HRS := Lib.hid hrs
          obtain ⟨L, hL⟩ : ∃ L, L = xs.map Pl.letterOf := ⟨_, rfl⟩
          rw [← hrs, ← hL] at HR2
          have hrl : rs.length ≤ 3 := by rw [hrs]; unfold Pl.rulesOf; (repeat' split) <;> simp
          rw [← hL]
          clear hL hrs
          go_wp2_with fail
          refine (rules_any k _).mono ?_
          rintro e w1 ⟨g, rfl, hrr, hg0, hg1, hb⟩
          rw [← HRS.out] at hrr ⊢
          have hb0 : Below w.heap.size w w1 := (below1 _ _).trans (hb.mono (by simp))
          have HB := Lib.hid hb0
          have HRR := Lib.hid hrr
          clear hb hb0 hrr
          go_wp2
          go_loopw [40] (fun i wr => ∃ j : Nat, j ≤ rs.length ∧ i = .int .i64 j ∧ Below w1.heap.size w1 wr ∧ Hid (∀ i r, i < j → rs[i]? = some r → r.1 ≠ L))
            (fun i _ => rs.length - (intOf i).toNat)
          case atStart => exact ⟨0, Nat.zero_le _, rfl, Below.refl _ _, Lib.hid (by omega)⟩
          case round =>
            obtain ⟨j, hj, rfl, hbr, HN⟩ := hrel
            by_cases hjl : j < rs.length
            · obtain ⟨q, hq⟩ : ∃ q, rs[j]? = some q := ⟨rs[j], by simp⟩
              obtain ⟨p1, p2⟩ := HRR.out j q hq
              have p1' := (hbr.cell (p := ⟨g, j * 2, none⟩) hg1).trans p1
              have p2' := (hbr.cell (p := ⟨g, j * 2 + 1, none⟩) hg1).trans p2
              have HQ := Lib.hid hq
              clear p1 p2 hq
              have hL0 : (mkS q.1).toList = q.1 := by rw [Lib.toList_data]; rfl
              have hL1 : (mkS L).toList = L := by rw [Lib.toList_data]; rfl
              by_cases hql : q.1 = L
              · have ht : ((mkS q.1).toList == (mkS L).toList) = true := by rw [hL0, hL1]; simpa using hql
                clear hL0 hL1
                go_wp2
                go_ret
                refine ⟨ret_int ?_, HB.out.trans ((hbr.mono HB.out.size).trans ((below1 _ _).mono (Nat.le_trans HB.out.size hbr.size)))⟩
                rw [HR2.out, Pl.look_drop HN.out, List.drop_eq_getElem_cons hjl]
                have : rs[j] = q := by have := HQ.out; rw [List.getElem?_eq_getElem hjl] at this; exact Option.some.inj this
                rw [this, Pl.look, if_pos hql]
              · have ht : ((mkS q.1).toList == (mkS L).toList) = false := by rw [hL0, hL1]; simpa using hql
                clear hL0 hL1
                go_wp2
                go_roundw
                case rel =>
                  refine ⟨j + 1, by omega, by go_num, hbr.trans ((below1 _ _).mono hbr.size), Lib.hid fun i r hi hr => ?_⟩
                  by_cases hij : i = j
                  · subst hij
                    rw [HQ.out] at hr
                    cases hr
                    exact hql
                  · exact HN.out i r (by omega) hr
                case measure => simp [intOf]; omega
            · obtain rfl : j = rs.length := by omega
              go_wp2
              go_ret
              refine ⟨ret_int ?_, HB.out.trans (hbr.mono HB.out.size)⟩
              rw [HR2.out, Pl.look_drop HN.out, List.drop_length]; rfl
end Go.Proofs.YtchoelgkcnnnkaaGreatDoor
