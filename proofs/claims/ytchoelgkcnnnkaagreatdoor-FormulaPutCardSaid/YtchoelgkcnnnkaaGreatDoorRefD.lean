/- WALKS of the reference: Valid, find, Names. -/
import Derived.Test.YtchoelgkcnnnkaaGreatDoorRefC
import Derived.Test.YtchoelgkcnnnkaaGreatDoorSmB
set_option linter.all false
namespace Go.Proofs.YtchoelgkcnnnkaaGreatDoor
open Go.RowKit
namespace Pl
theorem whole12_is {ts : List Tm} {x : Int} (h : WholeIs (rest 12 (ts.drop 0)) ts x) : (x == (ts.length : Int)) = whole12 ts := by
  rw [List.drop_zero] at h
  unfold whole12
  rcases h with ⟨rfl, h⟩ | ⟨p, rfl, hp, h⟩
  · rw [h]
    simp
  · rw [h]
    by_cases e : p = ts.length
    · subst e
      rw [List.drop_length]; simp
    · have h1 : ((p : Int) == (ts.length : Int)) = false := by rw [beq_eq_false_iff_ne]; omega
      rw [h1]
      cases hd : ts.drop p with
      | nil => have := congrArg List.length hd; rw [List.length_drop] at this; simp at this; omega
      | cons _ _ => rfl
theorem whole12_nil : whole12 [] = false := rfl
theorem toList_ne {x s : ByteArray} (h : x ≠ s) : (x.toList == s.toList) = false := by
  rw [beq_eq_false_iff_ne]
  intro e
  rw [Lib.toList_data, Lib.toList_data] at e
  exact h (bytes_ext e)
/-- The place of a text in a list; -1 if it is not there. -/
def FindIs (ns : List ByteArray) (s : ByteArray) (x : Int) : Prop := (x = -1 ∧ s ∉ ns) ∨ ∃ i : Nat, x = i ∧ ns[i]? = some s
end Pl
set_option maxRecDepth 100000 in
set_option maxHeartbeats 1000000 in
theorem validR_nil (a : Option Addr) (c : Nat) (w : World) : Calls Tryz.prog 21 #[.slice a 0 c] w fun e w' => e = .returned (.bool false) ∧ Below w.heap.size w w' := by
  have hw : ∀ w : World, Calls Tryz.prog 54 #[.slice a 0 c, .int .i64 0, .int .i64 12] w fun e w' => e = .returned (.int .i64 (-1)) ∧ w = w' := by
    intro w
    go_enter Tryz.func54, Tryz.ntmps54
    go_wp2
    go_ret
    exact ⟨rfl, rfl⟩
  have HW := Lib.hid hw
  clear hw
  go_enter Tryz.func21, Tryz.ntmps21
  go_wp2_with fail
  refine (HW.out _).mono ?_
  rintro e w1 ⟨rfl, rfl⟩
  go_wp2_with fail
  go_ret
  exact ⟨rfl, Below.refl _ _⟩
set_option maxRecDepth 100000 in
set_option maxHeartbeats 1000000 in
theorem validR_any (v : Value) (ts : List Tm) (r : Bool) (w : World) (hT : TermsIn w v ts) (hl : ts.length ≤ 9223372036854775807) (HR : Hid (r = Pl.validB ts)) :
    Calls Tryz.prog 21 #[v] w fun e w' => e = .returned (.bool r) ∧ Below w.heap.size w w' := by
  obtain ⟨a, c, rfl, hc, hsp, hrow⟩ := hT
  by_cases h0 : ts = []
  · subst h0
    refine (validR_nil a c w).mono fun e w' ⟨h, hb⟩ => ⟨?_, hb⟩
    rw [h, HR.out]; rfl
  · obtain ⟨b, off, rfl, hr⟩ := hrow h0
    have hpos : 0 < ts.length := List.length_pos_iff.2 h0
    by_cases h60 : ts.length ≤ 60
    · have HW := Lib.hid (whole_all 12 (by decide) b off c ts 0 12 w h60 hc hr (Nat.zero_le _) rfl)
      clear hr hsp hrow h0
      go_enter Tryz.func21, Tryz.ntmps21
      go_wp2_with fail
      refine HW.out.mono ?_
      rintro e w1 ⟨x, rfl, hx, hb⟩
      have HB := Lib.hid hb
      have hq := Pl.whole12_is hx
      obtain ⟨q, hqe⟩ : ∃ q, q = Pl.whole12 ts := ⟨_, rfl⟩
      rw [← hqe] at hq
      have HQ := Lib.hid hqe
      clear hb hx hqe
      cases q
      all_goals
        go_wp2_with fail
        go_ret
        refine ⟨ret_bool ?_, HB.out⟩
        rw [HR.out]; unfold Pl.validB; rw [← HQ.out]; simp; try omega
    · have hg : (60 : Int) < (ts.length : Int) := by omega
      clear hr hsp hrow h0
      go_enter Tryz.func21, Tryz.ntmps21
      go_wp2_with fail
      go_ret
      refine ⟨ret_bool ?_, Below.refl _ _⟩
      rw [HR.out]; unfold Pl.validB
      rw [decide_eq_false (by omega)]; rfl
set_option maxRecDepth 100000 in
set_option maxHeartbeats 1000000 in
theorem find_any (v : Value) (ns : List ByteArray) (s : ByteArray) (w : World) (hT : StrsIn w v ns) (hl : ns.length ≤ 1000000000) :
    Calls Tryz.prog 47 #[v, .string s] w fun e w' => ∃ x, e = .returned (.int .i64 x) ∧ Pl.FindIs ns s x ∧ w = w' := by
  obtain ⟨a, c, rfl, hc, hr⟩ := hT
  have HR := Lib.hid hr
  clear hr
  go_enter Tryz.func47, Tryz.ntmps47
  go_wp2
  go_loop [5] (fun i => ∃ k : Nat, k ≤ ns.length ∧ i = .int .i64 k ∧ ∀ j x, j < k → ns[j]? = some x → x ≠ s) (fun i => ns.length - (intOf i).toNat)
  case atStart => exact ⟨0, Nat.zero_le _, rfl, fun j x h => by omega⟩
  case round =>
    obtain ⟨k, hk, rfl, hno⟩ := hrel
    have HNO := Lib.hid hno
    clear hno
    by_cases hkl : k < ns.length
    · have hne : ns ≠ [] := by intro h; rw [h] at hkl; simp at hkl
      obtain ⟨g, rfl, hg, hgc⟩ := HR.out hne
      obtain ⟨x, hx⟩ : ∃ x, ns[k]? = some x := ⟨ns[k], by simp⟩
      have x0 := hgc k x hx
      have HXK := Lib.hid hx
      clear hx hgc hne
      by_cases he : x = s
      · subst he
        go_wp2
        go_ret
        exact ⟨k, rfl, .inr ⟨k, rfl, HXK.out⟩, rfl⟩
      · have hb : (x.toList == s.toList) = false := Pl.toList_ne he
        have HNE := Lib.hid he
        clear he
        go_wp2
        go_round
        case rel => exact ⟨k + 1, by omega, by go_num, fun j y hj hy => by
          by_cases e : j = k
          · subst e
            rw [HXK.out] at hy
            cases hy
            exact HNE.out
          · exact HNO.out j y (by omega) hy⟩
        case measure => simp [intOf]; omega
    · obtain rfl : k = ns.length := by omega
      go_wp2
      go_ret
      refine ⟨-1, rfl, .inl ⟨rfl, fun h => ?_⟩, rfl⟩
      obtain ⟨j, hj, e⟩ := List.getElem_of_mem h
      exact HNO.out j _ hj (List.getElem?_eq_getElem hj) e
set_option maxRecDepth 100000 in
set_option maxHeartbeats 1000000 in
theorem namesR_bad (v : Value) (ts : List Tm) (w : World) (hT : TermsIn w v ts) (hl : ts.length ≤ 9223372036854775807) (HV : Hid (false = Pl.validB ts)) :
    Calls Tryz.prog 16 #[v] w fun e w' => e = .returned (.tuple #[.slice none 0 0, .int .i64 150]) ∧ Below w.heap.size w w' := by
  have HT := Lib.hid hT
  obtain ⟨a, c, rfl, _⟩ := hT
  go_enter Tryz.func16, Tryz.ntmps16
  go_wp2_with fail
  refine (validR_any _ ts false _ HT.out hl HV).mono ?_
  rintro e w1 ⟨rfl, hb⟩
  have HB := Lib.hid hb
  clear hb
  go_wp2_with fail
  go_ret2
  exact ⟨rfl, HB.out⟩
theorem Pl.find_not {ns : List ByteArray} {s : ByteArray} {x : Int} (h : Pl.FindIs ns s x) : (x < 0 ↔ Lib.containsS ns s = false) ∧ -1 ≤ x ∧ x ≤ ns.length := by
  rcases h with ⟨rfl, h⟩ | ⟨i, rfl, h⟩
  · refine ⟨⟨fun _ => ?_, fun _ => by decide⟩, by decide, by omega⟩
    cases e : Lib.containsS ns s with
    | false => rfl
    | true => exact absurd ((Lib.containsS_iff ns s).1 e) h
  · have hm := List.mem_of_getElem? h
    have hi := (List.getElem?_eq_some_iff.1 h).1
    refine ⟨⟨fun h => by omega, fun e => ?_⟩, by omega, by omega⟩
    rw [(Lib.containsS_iff ns s).2 hm] at e
    cases e
theorem strs_of_at {w : World} {B : Nat} {v : Value} {ns : List ByteArray} (h : StrsAt w B v ns) : StrsIn w v ns := names_shape h
set_option maxRecDepth 100000 in
set_option maxHeartbeats 4000000 in
theorem namesR_ok (ts : List Tm) (d off c : Nat) (w : World) (hc : ts.length ≤ c) (hrow : RowIn w d off ts) (hl : ts.length ≤ 60) (hn0 : ts ≠ []) (HV : Hid (true = Pl.validB ts)) :
    Calls Tryz.prog 16 #[.slice (some ⟨d, off, none⟩) ts.length c] w fun e w' => ∃ v, e = .returned (.tuple #[v, .int .i64 0]) ∧ StrsAt w' w.heap.size v (Pl.namesOf ts) ∧ Below w.heap.size w w' := by
  have hd0 := hrow.lt hn0
  have HR := Lib.hid hrow
  obtain ⟨i0, hi0, hz0, hz1, hz2⟩ := info_parts info9
  have hT : Hid (TermsIn w (.slice (some ⟨d, off, none⟩) ts.length c) ts) := Lib.hid ⟨_, _, rfl, hc, by rintro p ⟨⟩; rfl, fun _ => ⟨_, _, rfl, hrow⟩⟩
  clear hrow hn0
  go_enter Tryz.func16, Tryz.ntmps16
  go_wp2_with fail
  refine (validR_any _ ts true _ hT.out (by omega) HV).mono ?_
  rintro e w0 ⟨rfl, hb⟩
  have HB := Lib.hid hb
  clear hb
  go_wp2_with fail
  go_loopw [4, 5] (fun v i wr => ∃ k : Nat, k ≤ ts.length ∧ i = .int .i64 k ∧ StrsAt wr w.heap.size v (Pl.namesOf (ts.take k)) ∧ Below w.heap.size w wr) (fun _ i _ => ts.length - (intOf i).toNat)
  case atStart => exact ⟨0, Nat.zero_le _, rfl, World.ownsRow_nil _ _ _ _, HB.out⟩
  case round =>
    obtain ⟨k, hk, rfl, hown, hbr⟩ := hrel
    have hsz := hbr.size
    by_cases hkl : k < ts.length
    · obtain ⟨t, ht⟩ : ∃ t, ts[k]? = some t := ⟨ts[k], by simp⟩
      obtain ⟨q1, q2, q3, q4⟩ := (HR.out.below hbr hd0) k t ht
      have hnl := Pl.namesOf_len (ts.take k)
      have hnl2 : (Pl.namesOf (ts.take k)).length ≤ 60 := by rw [List.length_take] at hnl; omega
      have HS := Lib.hid (Pl.namesOf_succ ht)
      obtain ⟨tk, tn, tss⟩ := t
      obtain ⟨ns, hns⟩ : ∃ ns, ns = Pl.namesOf (ts.take k) := ⟨_, rfl⟩
      rw [← hns] at hown hnl2 HS
      have HOW := Lib.hid hown
      have HBR := Lib.hid hbr
      clear ht hnl hns hown hbr
      dsimp only at *
      by_cases h4 : tk = 4
      · subst h4
        go_wp2_with fail
        refine (find_any _ ns tss _ (strs_of_at HOW.out) (by omega)).mono ?_
        rintro e w' ⟨x, rfl, hx, rfl⟩
        obtain ⟨hx1, hx2, hx3⟩ := Pl.find_not hx
        have hx4 : x ≤ 60 := by omega
        have HX1 := Lib.hid hx1
        clear hx hx1 hx3
        by_cases hneg : x < 0
        · have HC := Lib.hid (HX1.out.1 hneg)
          go_wp2_with (at_builtin; go_loud (refine wpList_append_own _ rfl _ _ 33 rfl w.heap.size 9 i0 (.string ByteArray.empty) 1 16 Tryz.underlying33 hi0 hz0 hz1 hz2 rfl (by decide) _ _ _ rfl (World.ownsRow.alloc HOW.out _) ⟨wr.heap.size, 0, none⟩ 1 1 [.string tss] rfl rfl ?c1 ?c2 ?c3 ?c4 ?c5 ?_))
          case c1 =>
            intro j u hj
            match j, hj with
            | 0, hj => simp at hj; subst hj; simp [Addr.add]
          case c2 => intro u hu; simp at hu; subst hu; rfl
          case c3 => unfold maxLen; omega
          case c4 => omega
          case c5 => simp; omega
          intro v' w1 hown' hgrow _
          have hgr := Lib.hid hgrow
          have hlt := fun k hk => (World.ownsRow.lt HOW.out k hk).1
          have HLT := Lib.hid hlt
          have HOW2 := Lib.hid hown'
          clear hgrow hlt hown'
          go_wp2_with fail
          go_roundw
          case rel => exact ⟨k + 1, by omega, by go_num, by rw [HS.out]; simp only [Pl.nameStep, HC.out]; simpa [StrsAt] using HOW2.out, (HBR.out.alloc hsz _).grown hgr.out (by simp; omega) HLT.out⟩
          case measure => simp [intOf]; omega
        · have hc : Lib.containsS ns tss = true := by
            cases e : Lib.containsS ns tss with
            | true => rfl
            | false => exact absurd (HX1.out.2 e) hneg
          have HC := Lib.hid hc
          clear hc
          go_wp2_with fail
          go_roundw
          case rel => exact ⟨k + 1, by omega, by go_num, by rw [HS.out]; simp only [Pl.nameStep, HC.out]; simpa using HOW.out, HBR.out⟩
          case measure => simp [intOf]; omega
      · have h4' : (tk == 4) = false := by simpa using h4
        have H4 := Lib.hid h4
        clear h4
        go_wp2_with fail
        go_roundw
        case rel => exact ⟨k + 1, by omega, by go_num, by rw [HS.out]; simp only [Pl.nameStep]; rw [if_neg (by simp [H4.out])]; exact HOW.out, HBR.out⟩
        case measure => simp [intOf]; omega
    · obtain rfl : k = ts.length := by omega
      rw [List.take_length] at hown
      have HOW := Lib.hid hown
      have HBR := Lib.hid hbr
      clear hown hbr
      go_wp2_with fail
      go_ret2
      exact ⟨_, rfl, HOW.out, HBR.out⟩
end Go.Proofs.YtchoelgkcnnnkaaGreatDoor
