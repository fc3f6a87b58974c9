/- WALK of the reference: In: values of the names of a formula that integers determine. -/
import Derived.Test.YtchoelgkcnnnkaaGreatDoorRefE
import Derived.Test.YtchoelgkcnnnkaaGreatDoorGrD
set_option linter.all false
namespace Go.Proofs.YtchoelgkcnnnkaaGreatDoor
open Go.RowKit
/-- A slice of integers that came in. -/
def IntsArg (w : World) (v : Value) (ys : List Int) : Prop :=
  ∃ a c, v = .slice a ys.length c ∧ ys.length ≤ c ∧ (∀ y ∈ ys, -9223372036854775808 ≤ y ∧ y ≤ 9223372036854775807) ∧
    (ys ≠ [] → ∃ b off, a = some ⟨b, off, none⟩ ∧ b < w.heap.size ∧ ∀ i y, ys[i]? = some y → w.cell? ⟨b, off + i, none⟩ = some (.int .i64 y))
theorem IntsArg.below {w w' : World} {v : Value} {ys : List Int} (h : IntsArg w v ys) (hb : Below w.heap.size w w') : IntsArg w' v ys := by
  obtain ⟨a, c, h1, h2, h3, h4⟩ := h
  refine ⟨a, c, h1, h2, h3, fun hn => ?_⟩
  obtain ⟨b, off, h5, h6, h7⟩ := h4 hn
  exact ⟨b, off, h5, Nat.lt_of_lt_of_le h6 hb.size, fun i y hy => (hb.cell (p := ⟨b, _, none⟩) h6).trans (h7 i y hy)⟩
theorem info48 : (Tryz.prog.info? 48).map (fun i => (i.zero, i.size, i.bytes)) = some (some (.agg #[.int .i64 0, .int .i64 0, .string ByteArray.empty]), 3, 32) := by kernel_rfl
theorem pick_rng (c n : Int) (w : World) (h0 : -9223372036854775808 ≤ c) (h1 : c ≤ 9223372036854775807) (h2 : 1 ≤ n) (h3 : n ≤ 9223372036854775807) :
    Calls Tryz.prog 39 #[.int .i64 c, .int .i64 n] w fun e w' => ∃ p, e = .returned (.int .i64 p) ∧ 0 ≤ p ∧ p < n ∧ w = w' :=
  (pickR_any c n w h0 h1 h2 h3).mono fun e w' ⟨he, hw⟩ => ⟨_, he, (Pl.pickOf_range c n (by omega)).1, (Pl.pickOf_range c n (by omega)).2, hw⟩
/-- A value that fits a name. -/
def FitsName (n : ByteArray) (x : Tm) : Prop := Pl.validV x = true ∧ x.k = Pl.typeOf n.data.toList ∧ x.s.size ≤ 3
structure InAt (B : Nat) (wr : World) (out : Value) (ns : List ByteArray) (k : Nat) (vs : List Tm) : Prop where
  own : wr.ownsRow B 48 3 out vs.length (tmCells vs)
  len : vs.length = k
  ok : ∀ (i : Nat) n x, ns[i]? = some n → vs[i]? = some x → FitsName n x
def InRel (B : Nat) (wr : World) (out : Value) (ns : List ByteArray) (k : Nat) : Prop := ∃ vs, InAt B wr out ns k vs
theorem InAt.push {B : Nat} {wr w2 : World} {out out2 : Value} {ns : List ByteArray} {k : Nat} {vs : List Tm} (h : InAt B wr out ns k vs) {n : ByteArray} {x : Tm} (hn : ns[k]? = some n) (hx : FitsName n x)
    (ho : w2.ownsRow B 48 3 out2 (vs.length + 1) (tmCells vs ++ [.int .i64 x.k, .int .i64 x.n, .string x.s])) : InRel B w2 out2 ns (k + 1) := by
  refine ⟨vs ++ [x], ?_, by rw [List.length_append, h.len]; rfl, fun i m y hm hy => ?_⟩
  · rw [List.length_append, tmCells_append]; exact ho
  · rcases Nat.lt_or_ge i vs.length with hi | hi
    · rw [List.getElem?_append_left hi] at hy
      exact h.ok i m y hm hy
    · rw [List.getElem?_append_right hi] at hy
      have h0 : i - vs.length = 0 := by
        rcases Nat.eq_zero_or_pos (i - vs.length) with h0 | h0
        · exact h0
        · rw [List.getElem?_eq_none (by simp; omega)] at hy; cases hy
      have e : i = k := by have := h.len; omega
      subst e
      rw [h0] at hy
      rw [hn] at hm
      cases hm
      simp at hy
      subst hy
      exact hx
theorem below_alloc2 {w W : World} {o1 o2 : Obj} (h : Below w.heap.size w W) : Below w.heap.size w ((W.alloc o1).alloc o2) := bel_alloc (bel_alloc h _) _
def InPost (ns : List ByteArray) (w : World) (e : Ending) (w' : World) : Prop :=
  ∃ (v : Value) (vs : List Tm), e = .returned v ∧ w'.ownsRow w.heap.size 48 3 v vs.length (tmCells vs) ∧ vs.length = ns.length ∧ (∀ (i : Nat) n x, ns[i]? = some n → vs[i]? = some x → FitsName n x) ∧ Below w.heap.size w w'
theorem fits_num {n : ByteArray} {p : Int} (h0 : -100 ≤ p) (h1 : p ≤ 100) (ht : (1 : Int) = Pl.typeOf n.data.toList) : FitsName n ⟨1, p, ⟨#[]⟩⟩ := by
  refine ⟨?_, ht, Nat.zero_le _⟩
  simp only [Pl.validV, if_true, Bool.and_eq_true, decide_eq_true_eq]
  exact ⟨⟨by omega, by omega⟩, by decide +kernel⟩
theorem fits_tru {n : ByteArray} {b : Bool} (ht : (2 : Int) = Pl.typeOf n.data.toList) : FitsName n (truthV b) := by
  cases b <;> exact ⟨by decide +kernel, ht, Nat.zero_le _⟩
theorem fits_tru2 {n : ByteArray} {q : Int} (hq : q = 0 ∨ q = 1) (ht : (2 : Int) = Pl.typeOf n.data.toList) : FitsName n ⟨2, q, ⟨#[]⟩⟩ := by
  rcases hq with rfl | rfl <;> exact ⟨by decide +kernel, ht, Nat.zero_le _⟩
theorem count_is (n : Int) (w : World) : Calls Tryz.prog 60 #[.int .i64 n] w fun e w' => e = .returned (.agg #[.int .i64 1, .int .i64 n, .string ⟨#[]⟩]) ∧ Below w.heap.size w w' := count_any n w
theorem truth_is (b : Bool) (w : World) : Calls Tryz.prog 61 #[.bool b] w fun e w' => ∃ q : Int, e = .returned (.agg #[.int .i64 2, .int .i64 q, .string ⟨#[]⟩]) ∧ (q = 0 ∨ q = 1) ∧ Below w.heap.size w w' := by
  cases b
  · exact (truthR_any false w).mono fun e w' ⟨he, hb⟩ => ⟨0, he, .inl rfl, hb⟩
  · exact (truthR_any true w).mono fun e w' ⟨he, hb⟩ => ⟨1, he, .inr rfl, hb⟩
theorem fits_txt {n : ByteArray} {s : ByteArray} (hs : s.size ≤ 3) (ht : (3 : Int) = Pl.typeOf n.data.toList) : FitsName n ⟨3, 0, s⟩ := by
  refine ⟨?_, ht, hs⟩
  have h : ((s.size : Nat) : Int) ≤ 400 := by omega
  show (decide ((0 : Int) = 0) && decide (((s.size : Nat) : Int) ≤ 400)) = true
  rw [decide_eq_true h]; rfl
set_option maxRecDepth 100000 in
set_option maxHeartbeats 8000000 in
theorem in_any (ts : List Tm) (d off c : Nat) (v : Value) (ys : List Int) (w : World) (hc : ts.length ≤ c) (hrow : RowIn w d off ts) (hl : ts.length ≤ 60) (hn0 : ts ≠ []) (HV : Hid (true = Pl.validB ts)) (hy : IntsArg w v ys) (hyl : ys.length ≤ 9223372036854775807)
    (htn : ∀ n ∈ Pl.namesOf ts, 0 < Pl.typeOf n.data.toList) :
    Calls Tryz.prog 27 #[.slice (some ⟨d, off, none⟩) ts.length c, v] w (InPost (Pl.namesOf ts) w) := by
  obtain ⟨i0, hi0, hz0, hz1, hz2⟩ := info_parts info48
  have HN := Lib.hid (namesR_ok ts d off c w hc hrow hl hn0 HV)
  have hnl := Pl.namesOf_len ts
  obtain ⟨ns, hns⟩ : ∃ ns, ns = Pl.namesOf ts := ⟨_, rfl⟩
  rw [← hns] at HN hnl htn ⊢
  have hnl2 : ns.length ≤ 60 := by omega
  have HY := Lib.hid hy
  obtain ⟨a, ca, rfl, hca, hyb, hyc⟩ := hy
  have HTN := Lib.hid htn
  have HYB := Lib.hid hyb
  have HYC := Lib.hid hyc
  clear hns hrow hn0 hnl htn hyb hyc
  go_enter Tryz.func27, Tryz.ntmps27
  go_wp2_with fail
  refine HN.out.mono ?_
  rintro e w1 ⟨vn, rfl, hsa, hb1⟩
  have hsi := strs_of_at hsa
  obtain ⟨an, cn, rfl, hcn, hnc⟩ := hsi
  have HNC := Lib.hid hnc
  have HB1 := Lib.hid hb1
  have hs1 := hb1.size
  clear hsa hnc hb1 HN
  go_wp2_with fail
  go_loopw [7, 8] (fun so si wr => ∃ k : Nat, k ≤ ns.length ∧ si = .int .i64 k ∧ InRel w1.heap.size wr so ns k ∧ Below w1.heap.size w1 wr) (fun _ si _ => ns.length - (intOf si).toNat)
  case atStart => exact ⟨0, Nat.zero_le _, rfl, ⟨[], World.ownsRow_nil _ _ _ _, rfl, fun i n x h hx => by simp at hx⟩, Below.refl _ _⟩
  case round =>
    obtain ⟨k, hk, rfl, ⟨vs, hin⟩, hbr⟩ := hrel
    have HIN := Lib.hid hin
    have HBR := Lib.hid hbr
    have hsz := hbr.size
    clear hin hbr
    by_cases hkl : k < ns.length
    · obtain ⟨m, hm⟩ : ∃ m, ns[k]? = some m := ⟨ns[k], by simp⟩
      have hne : ns ≠ [] := by intro h; rw [h] at hkl; simp at hkl
      obtain ⟨gn, rfl, hgn, hgc⟩ := HNC.out hne
      have m0 := (HBR.out.cell (p := ⟨gn, k, none⟩) hgn).trans (hgc k m hm)
      have hty0 := HTN.out m (List.mem_of_getElem? hm)
      have hty1 := Pl.typeOf_range m.data.toList
      have hms : m.size ≤ 9223372036854775807 := by
        have := Pl.typeOf_len m.data.toList hty0
        rw [show m.size = m.data.toList.length from rfl]; omega
      obtain ⟨T, hT⟩ : ∃ T, T = Pl.typeOf m.data.toList := ⟨_, rfl⟩
      rw [← hT] at hty0 hty1
      have HT := Lib.hid hT
      have HM := Lib.hid hm
      have hvl : vs.length ≤ 60 := by have := HIN.out.len; omega
      have hT3 : T = 1 ∨ T = 2 ∨ T = 3 := by omega
      clear hm hne hgc hT hty0 hty1
      have ways : (∃ y, ys[k]? = some y) ∨ ys.length ≤ k := by
        rcases Nat.lt_or_ge k ys.length with h | h
        · exact .inl ⟨ys[k], by simp [h]⟩
        · exact .inr h
      rcases ways with ⟨N, hN⟩ | hge
      · have hkl2 : k < ys.length := (List.getElem?_eq_some_iff.1 hN).1
        obtain ⟨gb, go, rfl, hgb, hgy⟩ := HYC.out (by intro e; rw [e] at hkl2; simp at hkl2)
        have n0 := ((HB1.out.trans (HBR.out.mono hs1)).cell (p := ⟨gb, go + k, none⟩) hgb).trans (hgy k N hN)
        obtain ⟨n1, n2⟩ := HYB.out N (List.mem_of_getElem? hN)
        clear hN hgy
        go_wp2_with fail
        refine (typeOfR_any m _ hms).mono ?_
        rintro e w' ⟨rfl, rfl⟩
        rw [← HT.out]
        rcases hT3 with rfl | rfl | rfl
        · go_wp2_with fail
          refine (pick_rng _ 41 _ (by omega) (by omega) (by decide) (by decide)).mono ?_
          rintro e w' ⟨p, rfl, hp0, hp1, rfl⟩
          go_wp2_with fail
          refine (count_is _ _).mono ?_
          rintro e w3 ⟨rfl, hb3⟩
          have HO := Lib.hid (ownsRow_below HIN.out.own hb3)
          have HB3 := Lib.hid (HBR.out.trans (hb3.mono hsz))
          have hs3 := HB3.out.size
          clear hb3
          go_wp2_with (at_builtin; go_loud (refine wpList_append_own _ rfl _ _ 49 rfl w1.heap.size 48 i0 (.agg #[.int .i64 0, .int .i64 0, .string ByteArray.empty]) 3 32 Tryz.underlying49 hi0 hz0 hz1 hz2 rfl (by decide) _ _ _ rfl (World.ownsRow.alloc HO.out _) ⟨w3.heap.size, 0, none⟩ 1 1 [.int .i64 1, .int .i64 (p - 20), .string ⟨#[]⟩] rfl rfl ?c1 ?c2 ?c3 ?c4 ?c5 ?_))
          case c1 =>
            intro j u hj
            match j, hj with
            | 0, hj => simp at hj; subst hj; simp [Addr.add, go_sem]
            | 1, hj => simp at hj; subst hj; simp [Addr.add, go_sem]
            | 2, hj => simp at hj; subst hj; simp [Addr.add, go_sem]
          case c2 => intro u hu; simp at hu; rcases hu with rfl | rfl | rfl <;> rfl
          case c3 => unfold maxLen; omega
          case c4 => omega
          case c5 => simp; omega
          intro v' w5 hown' hgrow _
          have HREL := Lib.hid (HIN.out.push (x := ⟨1, (p - 20), ⟨#[]⟩⟩) HM.out (fits_num (by omega) (by omega) HT.out) hown')
          have HLT := Lib.hid (fun j hj => (World.ownsRow.lt HO.out j hj).1)
          have HB5 := Lib.hid ((bel_alloc HB3.out _).grown hgrow (by simp; omega) HLT.out)
          clear hgrow hown'
          go_wp2_with fail
          go_roundw
          case rel => exact ⟨k + 1, by omega, by go_num, HREL.out, HB5.out⟩
          case measure => simp [intOf]; omega
        · go_wp2_with fail
          refine (pick_rng _ 2 _ (by omega) (by omega) (by decide) (by decide)).mono ?_
          rintro e w' ⟨p, rfl, hp0, hp1, rfl⟩
          go_wp2_with fail
          refine (truth_is _ _).mono ?_
          rintro e w3 ⟨q, rfl, hq, hb3⟩
          have HQ := Lib.hid hq
          have HO := Lib.hid (ownsRow_below HIN.out.own hb3)
          have HB3 := Lib.hid (HBR.out.trans (hb3.mono hsz))
          have hs3 := HB3.out.size
          clear hb3 hq
          go_wp2_with (at_builtin; go_loud (refine wpList_append_own _ rfl _ _ 49 rfl w1.heap.size 48 i0 (.agg #[.int .i64 0, .int .i64 0, .string ByteArray.empty]) 3 32 Tryz.underlying49 hi0 hz0 hz1 hz2 rfl (by decide) _ _ _ rfl (World.ownsRow.alloc HO.out _) ⟨w3.heap.size, 0, none⟩ 1 1 [.int .i64 2, .int .i64 q, .string ⟨#[]⟩] rfl rfl ?c1 ?c2 ?c3 ?c4 ?c5 ?_))
          case c1 =>
            intro j u hj
            match j, hj with
            | 0, hj => simp at hj; subst hj; simp [Addr.add, go_sem]
            | 1, hj => simp at hj; subst hj; simp [Addr.add, go_sem]
            | 2, hj => simp at hj; subst hj; simp [Addr.add, go_sem]
          case c2 => intro u hu; simp at hu; rcases hu with rfl | rfl | rfl <;> rfl
          case c3 => unfold maxLen; omega
          case c4 => omega
          case c5 => simp; omega
          intro v' w5 hown' hgrow _
          have HREL := Lib.hid (HIN.out.push (x := ⟨2, q, ⟨#[]⟩⟩) HM.out (fits_tru2 HQ.out HT.out) hown')
          have HLT := Lib.hid (fun j hj => (World.ownsRow.lt HO.out j hj).1)
          have HB5 := Lib.hid ((bel_alloc HB3.out _).grown hgrow (by simp; omega) HLT.out)
          clear hgrow hown'
          go_wp2_with fail
          go_roundw
          case rel => exact ⟨k + 1, by omega, by go_num, HREL.out, HB5.out⟩
          case measure => simp [intOf]; omega
        · go_wp2_with fail
          refine (pick_rng _ 5 _ (by omega) (by omega) (by decide) (by decide)).mono ?_
          rintro e w' ⟨p, rfl, hp0, hp1, rfl⟩
          have HB3 := HBR
          have HO := Lib.hid (World.ownsRow.alloc HIN.out.own (.cells #[.string ⟨#[]⟩, .string ⟨#[97]⟩, .string ⟨#[97, 98]⟩, .string ⟨#[98]⟩, .string ⟨#[120, 121, 122]⟩] 9))
          have h5 : p = 0 ∨ p = 1 ∨ p = 2 ∨ p = 3 ∨ p = 4 := by omega
          rcases h5 with rfl | rfl | rfl | rfl | rfl
          · go_wp2_with (at_builtin; go_loud (refine wpList_append_own _ rfl _ _ 49 rfl w1.heap.size 48 i0 (.agg #[.int .i64 0, .int .i64 0, .string ByteArray.empty]) 3 32 Tryz.underlying49 hi0 hz0 hz1 hz2 rfl (by decide) _ _ _ rfl (World.ownsRow.alloc HO.out _) ⟨wr.heap.size + 1, 0, none⟩ 1 1 [.int .i64 3, .int .i64 0, .string ⟨#[]⟩] rfl rfl ?c1 ?c2 ?c3 ?c4 ?c5 ?_))
            case c1 =>
              intro j u hj
              match j, hj with
              | 0, hj => simp at hj; subst hj; simp [Addr.add, go_sem]
              | 1, hj => simp at hj; subst hj; simp [Addr.add, go_sem]
              | 2, hj => simp at hj; subst hj; simp [Addr.add, go_sem]
            case c2 => intro u hu; simp at hu; rcases hu with rfl | rfl | rfl <;> rfl
            case c3 => unfold maxLen; omega
            case c4 => omega
            case c5 => simp; omega
            intro v' w5 hown' hgrow _
            have HREL := Lib.hid (HIN.out.push (x := ⟨3, 0, ⟨#[]⟩⟩) HM.out (fits_txt (by decide) HT.out) hown')
            have HLT := Lib.hid (fun j hj => (World.ownsRow.lt HO.out j hj).1)
            have HB5 := Lib.hid ((below_alloc2 HB3.out).grown hgrow (by simp; omega) HLT.out)
            clear hgrow hown'
            go_wp2_with fail
            go_roundw
            case rel => exact ⟨k + 1, by omega, by go_num, HREL.out, HB5.out⟩
            case measure => simp [intOf]; omega
          · go_wp2_with (at_builtin; go_loud (refine wpList_append_own _ rfl _ _ 49 rfl w1.heap.size 48 i0 (.agg #[.int .i64 0, .int .i64 0, .string ByteArray.empty]) 3 32 Tryz.underlying49 hi0 hz0 hz1 hz2 rfl (by decide) _ _ _ rfl (World.ownsRow.alloc HO.out _) ⟨wr.heap.size + 1, 0, none⟩ 1 1 [.int .i64 3, .int .i64 0, .string ⟨#[97]⟩] rfl rfl ?c1 ?c2 ?c3 ?c4 ?c5 ?_))
            case c1 =>
              intro j u hj
              match j, hj with
              | 0, hj => simp at hj; subst hj; simp [Addr.add, go_sem]
              | 1, hj => simp at hj; subst hj; simp [Addr.add, go_sem]
              | 2, hj => simp at hj; subst hj; simp [Addr.add, go_sem]
            case c2 => intro u hu; simp at hu; rcases hu with rfl | rfl | rfl <;> rfl
            case c3 => unfold maxLen; omega
            case c4 => omega
            case c5 => simp; omega
            intro v' w5 hown' hgrow _
            have HREL := Lib.hid (HIN.out.push (x := ⟨3, 0, ⟨#[97]⟩⟩) HM.out (fits_txt (by decide) HT.out) hown')
            have HLT := Lib.hid (fun j hj => (World.ownsRow.lt HO.out j hj).1)
            have HB5 := Lib.hid ((below_alloc2 HB3.out).grown hgrow (by simp; omega) HLT.out)
            clear hgrow hown'
            go_wp2_with fail
            go_roundw
            case rel => exact ⟨k + 1, by omega, by go_num, HREL.out, HB5.out⟩
            case measure => simp [intOf]; omega
          · go_wp2_with (at_builtin; go_loud (refine wpList_append_own _ rfl _ _ 49 rfl w1.heap.size 48 i0 (.agg #[.int .i64 0, .int .i64 0, .string ByteArray.empty]) 3 32 Tryz.underlying49 hi0 hz0 hz1 hz2 rfl (by decide) _ _ _ rfl (World.ownsRow.alloc HO.out _) ⟨wr.heap.size + 1, 0, none⟩ 1 1 [.int .i64 3, .int .i64 0, .string ⟨#[97, 98]⟩] rfl rfl ?c1 ?c2 ?c3 ?c4 ?c5 ?_))
            case c1 =>
              intro j u hj
              match j, hj with
              | 0, hj => simp at hj; subst hj; simp [Addr.add, go_sem]
              | 1, hj => simp at hj; subst hj; simp [Addr.add, go_sem]
              | 2, hj => simp at hj; subst hj; simp [Addr.add, go_sem]
            case c2 => intro u hu; simp at hu; rcases hu with rfl | rfl | rfl <;> rfl
            case c3 => unfold maxLen; omega
            case c4 => omega
            case c5 => simp; omega
            intro v' w5 hown' hgrow _
            have HREL := Lib.hid (HIN.out.push (x := ⟨3, 0, ⟨#[97, 98]⟩⟩) HM.out (fits_txt (by decide) HT.out) hown')
            have HLT := Lib.hid (fun j hj => (World.ownsRow.lt HO.out j hj).1)
            have HB5 := Lib.hid ((below_alloc2 HB3.out).grown hgrow (by simp; omega) HLT.out)
            clear hgrow hown'
            go_wp2_with fail
            go_roundw
            case rel => exact ⟨k + 1, by omega, by go_num, HREL.out, HB5.out⟩
            case measure => simp [intOf]; omega
          · go_wp2_with (at_builtin; go_loud (refine wpList_append_own _ rfl _ _ 49 rfl w1.heap.size 48 i0 (.agg #[.int .i64 0, .int .i64 0, .string ByteArray.empty]) 3 32 Tryz.underlying49 hi0 hz0 hz1 hz2 rfl (by decide) _ _ _ rfl (World.ownsRow.alloc HO.out _) ⟨wr.heap.size + 1, 0, none⟩ 1 1 [.int .i64 3, .int .i64 0, .string ⟨#[98]⟩] rfl rfl ?c1 ?c2 ?c3 ?c4 ?c5 ?_))
            case c1 =>
              intro j u hj
              match j, hj with
              | 0, hj => simp at hj; subst hj; simp [Addr.add, go_sem]
              | 1, hj => simp at hj; subst hj; simp [Addr.add, go_sem]
              | 2, hj => simp at hj; subst hj; simp [Addr.add, go_sem]
            case c2 => intro u hu; simp at hu; rcases hu with rfl | rfl | rfl <;> rfl
            case c3 => unfold maxLen; omega
            case c4 => omega
            case c5 => simp; omega
            intro v' w5 hown' hgrow _
            have HREL := Lib.hid (HIN.out.push (x := ⟨3, 0, ⟨#[98]⟩⟩) HM.out (fits_txt (by decide) HT.out) hown')
            have HLT := Lib.hid (fun j hj => (World.ownsRow.lt HO.out j hj).1)
            have HB5 := Lib.hid ((below_alloc2 HB3.out).grown hgrow (by simp; omega) HLT.out)
            clear hgrow hown'
            go_wp2_with fail
            go_roundw
            case rel => exact ⟨k + 1, by omega, by go_num, HREL.out, HB5.out⟩
            case measure => simp [intOf]; omega
          · go_wp2_with (at_builtin; go_loud (refine wpList_append_own _ rfl _ _ 49 rfl w1.heap.size 48 i0 (.agg #[.int .i64 0, .int .i64 0, .string ByteArray.empty]) 3 32 Tryz.underlying49 hi0 hz0 hz1 hz2 rfl (by decide) _ _ _ rfl (World.ownsRow.alloc HO.out _) ⟨wr.heap.size + 1, 0, none⟩ 1 1 [.int .i64 3, .int .i64 0, .string ⟨#[120, 121, 122]⟩] rfl rfl ?c1 ?c2 ?c3 ?c4 ?c5 ?_))
            case c1 =>
              intro j u hj
              match j, hj with
              | 0, hj => simp at hj; subst hj; simp [Addr.add, go_sem]
              | 1, hj => simp at hj; subst hj; simp [Addr.add, go_sem]
              | 2, hj => simp at hj; subst hj; simp [Addr.add, go_sem]
            case c2 => intro u hu; simp at hu; rcases hu with rfl | rfl | rfl <;> rfl
            case c3 => unfold maxLen; omega
            case c4 => omega
            case c5 => simp; omega
            intro v' w5 hown' hgrow _
            have HREL := Lib.hid (HIN.out.push (x := ⟨3, 0, ⟨#[120, 121, 122]⟩⟩) HM.out (fits_txt (by decide) HT.out) hown')
            have HLT := Lib.hid (fun j hj => (World.ownsRow.lt HO.out j hj).1)
            have HB5 := Lib.hid ((below_alloc2 HB3.out).grown hgrow (by simp; omega) HLT.out)
            clear hgrow hown'
            go_wp2_with fail
            go_roundw
            case rel => exact ⟨k + 1, by omega, by go_num, HREL.out, HB5.out⟩
            case measure => simp [intOf]; omega
      · go_wp2_with fail
        refine (typeOfR_any m _ hms).mono ?_
        rintro e w' ⟨rfl, rfl⟩
        rw [← HT.out]
        rcases hT3 with rfl | rfl | rfl
        · go_wp2_with fail
          refine (pick_rng _ 41 _ (by omega) (by omega) (by decide) (by decide)).mono ?_
          rintro e w' ⟨p, rfl, hp0, hp1, rfl⟩
          go_wp2_with fail
          refine (count_is _ _).mono ?_
          rintro e w3 ⟨rfl, hb3⟩
          have HO := Lib.hid (ownsRow_below HIN.out.own hb3)
          have HB3 := Lib.hid (HBR.out.trans (hb3.mono hsz))
          have hs3 := HB3.out.size
          clear hb3
          go_wp2_with (at_builtin; go_loud (refine wpList_append_own _ rfl _ _ 49 rfl w1.heap.size 48 i0 (.agg #[.int .i64 0, .int .i64 0, .string ByteArray.empty]) 3 32 Tryz.underlying49 hi0 hz0 hz1 hz2 rfl (by decide) _ _ _ rfl (World.ownsRow.alloc HO.out _) ⟨w3.heap.size, 0, none⟩ 1 1 [.int .i64 1, .int .i64 (p - 20), .string ⟨#[]⟩] rfl rfl ?c1 ?c2 ?c3 ?c4 ?c5 ?_))
          case c1 =>
            intro j u hj
            match j, hj with
            | 0, hj => simp at hj; subst hj; simp [Addr.add, go_sem]
            | 1, hj => simp at hj; subst hj; simp [Addr.add, go_sem]
            | 2, hj => simp at hj; subst hj; simp [Addr.add, go_sem]
          case c2 => intro u hu; simp at hu; rcases hu with rfl | rfl | rfl <;> rfl
          case c3 => unfold maxLen; omega
          case c4 => omega
          case c5 => simp; omega
          intro v' w5 hown' hgrow _
          have HREL := Lib.hid (HIN.out.push (x := ⟨1, (p - 20), ⟨#[]⟩⟩) HM.out (fits_num (by omega) (by omega) HT.out) hown')
          have HLT := Lib.hid (fun j hj => (World.ownsRow.lt HO.out j hj).1)
          have HB5 := Lib.hid ((bel_alloc HB3.out _).grown hgrow (by simp; omega) HLT.out)
          clear hgrow hown'
          go_wp2_with fail
          go_roundw
          case rel => exact ⟨k + 1, by omega, by go_num, HREL.out, HB5.out⟩
          case measure => simp [intOf]; omega
        · go_wp2_with fail
          refine (pick_rng _ 2 _ (by omega) (by omega) (by decide) (by decide)).mono ?_
          rintro e w' ⟨p, rfl, hp0, hp1, rfl⟩
          go_wp2_with fail
          refine (truth_is _ _).mono ?_
          rintro e w3 ⟨q, rfl, hq, hb3⟩
          have HQ := Lib.hid hq
          have HO := Lib.hid (ownsRow_below HIN.out.own hb3)
          have HB3 := Lib.hid (HBR.out.trans (hb3.mono hsz))
          have hs3 := HB3.out.size
          clear hb3 hq
          go_wp2_with (at_builtin; go_loud (refine wpList_append_own _ rfl _ _ 49 rfl w1.heap.size 48 i0 (.agg #[.int .i64 0, .int .i64 0, .string ByteArray.empty]) 3 32 Tryz.underlying49 hi0 hz0 hz1 hz2 rfl (by decide) _ _ _ rfl (World.ownsRow.alloc HO.out _) ⟨w3.heap.size, 0, none⟩ 1 1 [.int .i64 2, .int .i64 q, .string ⟨#[]⟩] rfl rfl ?c1 ?c2 ?c3 ?c4 ?c5 ?_))
          case c1 =>
            intro j u hj
            match j, hj with
            | 0, hj => simp at hj; subst hj; simp [Addr.add, go_sem]
            | 1, hj => simp at hj; subst hj; simp [Addr.add, go_sem]
            | 2, hj => simp at hj; subst hj; simp [Addr.add, go_sem]
          case c2 => intro u hu; simp at hu; rcases hu with rfl | rfl | rfl <;> rfl
          case c3 => unfold maxLen; omega
          case c4 => omega
          case c5 => simp; omega
          intro v' w5 hown' hgrow _
          have HREL := Lib.hid (HIN.out.push (x := ⟨2, q, ⟨#[]⟩⟩) HM.out (fits_tru2 HQ.out HT.out) hown')
          have HLT := Lib.hid (fun j hj => (World.ownsRow.lt HO.out j hj).1)
          have HB5 := Lib.hid ((bel_alloc HB3.out _).grown hgrow (by simp; omega) HLT.out)
          clear hgrow hown'
          go_wp2_with fail
          go_roundw
          case rel => exact ⟨k + 1, by omega, by go_num, HREL.out, HB5.out⟩
          case measure => simp [intOf]; omega
        · go_wp2_with fail
          refine (pick_rng _ 5 _ (by omega) (by omega) (by decide) (by decide)).mono ?_
          rintro e w' ⟨p, rfl, hp0, hp1, rfl⟩
          have HB3 := HBR
          have HO := Lib.hid (World.ownsRow.alloc HIN.out.own (.cells #[.string ⟨#[]⟩, .string ⟨#[97]⟩, .string ⟨#[97, 98]⟩, .string ⟨#[98]⟩, .string ⟨#[120, 121, 122]⟩] 9))
          have h5 : p = 0 ∨ p = 1 ∨ p = 2 ∨ p = 3 ∨ p = 4 := by omega
          rcases h5 with rfl | rfl | rfl | rfl | rfl
          · go_wp2_with (at_builtin; go_loud (refine wpList_append_own _ rfl _ _ 49 rfl w1.heap.size 48 i0 (.agg #[.int .i64 0, .int .i64 0, .string ByteArray.empty]) 3 32 Tryz.underlying49 hi0 hz0 hz1 hz2 rfl (by decide) _ _ _ rfl (World.ownsRow.alloc HO.out _) ⟨wr.heap.size + 1, 0, none⟩ 1 1 [.int .i64 3, .int .i64 0, .string ⟨#[]⟩] rfl rfl ?c1 ?c2 ?c3 ?c4 ?c5 ?_))
            case c1 =>
              intro j u hj
              match j, hj with
              | 0, hj => simp at hj; subst hj; simp [Addr.add, go_sem]
              | 1, hj => simp at hj; subst hj; simp [Addr.add, go_sem]
              | 2, hj => simp at hj; subst hj; simp [Addr.add, go_sem]
            case c2 => intro u hu; simp at hu; rcases hu with rfl | rfl | rfl <;> rfl
            case c3 => unfold maxLen; omega
            case c4 => omega
            case c5 => simp; omega
            intro v' w5 hown' hgrow _
            have HREL := Lib.hid (HIN.out.push (x := ⟨3, 0, ⟨#[]⟩⟩) HM.out (fits_txt (by decide) HT.out) hown')
            have HLT := Lib.hid (fun j hj => (World.ownsRow.lt HO.out j hj).1)
            have HB5 := Lib.hid ((below_alloc2 HB3.out).grown hgrow (by simp; omega) HLT.out)
            clear hgrow hown'
            go_wp2_with fail
            go_roundw
            case rel => exact ⟨k + 1, by omega, by go_num, HREL.out, HB5.out⟩
            case measure => simp [intOf]; omega
          · go_wp2_with (at_builtin; go_loud (refine wpList_append_own _ rfl _ _ 49 rfl w1.heap.size 48 i0 (.agg #[.int .i64 0, .int .i64 0, .string ByteArray.empty]) 3 32 Tryz.underlying49 hi0 hz0 hz1 hz2 rfl (by decide) _ _ _ rfl (World.ownsRow.alloc HO.out _) ⟨wr.heap.size + 1, 0, none⟩ 1 1 [.int .i64 3, .int .i64 0, .string ⟨#[97]⟩] rfl rfl ?c1 ?c2 ?c3 ?c4 ?c5 ?_))
            case c1 =>
              intro j u hj
              match j, hj with
              | 0, hj => simp at hj; subst hj; simp [Addr.add, go_sem]
              | 1, hj => simp at hj; subst hj; simp [Addr.add, go_sem]
              | 2, hj => simp at hj; subst hj; simp [Addr.add, go_sem]
            case c2 => intro u hu; simp at hu; rcases hu with rfl | rfl | rfl <;> rfl
            case c3 => unfold maxLen; omega
            case c4 => omega
            case c5 => simp; omega
            intro v' w5 hown' hgrow _
            have HREL := Lib.hid (HIN.out.push (x := ⟨3, 0, ⟨#[97]⟩⟩) HM.out (fits_txt (by decide) HT.out) hown')
            have HLT := Lib.hid (fun j hj => (World.ownsRow.lt HO.out j hj).1)
            have HB5 := Lib.hid ((below_alloc2 HB3.out).grown hgrow (by simp; omega) HLT.out)
            clear hgrow hown'
            go_wp2_with fail
            go_roundw
            case rel => exact ⟨k + 1, by omega, by go_num, HREL.out, HB5.out⟩
            case measure => simp [intOf]; omega
          · go_wp2_with (at_builtin; go_loud (refine wpList_append_own _ rfl _ _ 49 rfl w1.heap.size 48 i0 (.agg #[.int .i64 0, .int .i64 0, .string ByteArray.empty]) 3 32 Tryz.underlying49 hi0 hz0 hz1 hz2 rfl (by decide) _ _ _ rfl (World.ownsRow.alloc HO.out _) ⟨wr.heap.size + 1, 0, none⟩ 1 1 [.int .i64 3, .int .i64 0, .string ⟨#[97, 98]⟩] rfl rfl ?c1 ?c2 ?c3 ?c4 ?c5 ?_))
            case c1 =>
              intro j u hj
              match j, hj with
              | 0, hj => simp at hj; subst hj; simp [Addr.add, go_sem]
              | 1, hj => simp at hj; subst hj; simp [Addr.add, go_sem]
              | 2, hj => simp at hj; subst hj; simp [Addr.add, go_sem]
            case c2 => intro u hu; simp at hu; rcases hu with rfl | rfl | rfl <;> rfl
            case c3 => unfold maxLen; omega
            case c4 => omega
            case c5 => simp; omega
            intro v' w5 hown' hgrow _
            have HREL := Lib.hid (HIN.out.push (x := ⟨3, 0, ⟨#[97, 98]⟩⟩) HM.out (fits_txt (by decide) HT.out) hown')
            have HLT := Lib.hid (fun j hj => (World.ownsRow.lt HO.out j hj).1)
            have HB5 := Lib.hid ((below_alloc2 HB3.out).grown hgrow (by simp; omega) HLT.out)
            clear hgrow hown'
            go_wp2_with fail
            go_roundw
            case rel => exact ⟨k + 1, by omega, by go_num, HREL.out, HB5.out⟩
            case measure => simp [intOf]; omega
          · go_wp2_with (at_builtin; go_loud (refine wpList_append_own _ rfl _ _ 49 rfl w1.heap.size 48 i0 (.agg #[.int .i64 0, .int .i64 0, .string ByteArray.empty]) 3 32 Tryz.underlying49 hi0 hz0 hz1 hz2 rfl (by decide) _ _ _ rfl (World.ownsRow.alloc HO.out _) ⟨wr.heap.size + 1, 0, none⟩ 1 1 [.int .i64 3, .int .i64 0, .string ⟨#[98]⟩] rfl rfl ?c1 ?c2 ?c3 ?c4 ?c5 ?_))
            case c1 =>
              intro j u hj
              match j, hj with
              | 0, hj => simp at hj; subst hj; simp [Addr.add, go_sem]
              | 1, hj => simp at hj; subst hj; simp [Addr.add, go_sem]
              | 2, hj => simp at hj; subst hj; simp [Addr.add, go_sem]
            case c2 => intro u hu; simp at hu; rcases hu with rfl | rfl | rfl <;> rfl
            case c3 => unfold maxLen; omega
            case c4 => omega
            case c5 => simp; omega
            intro v' w5 hown' hgrow _
            have HREL := Lib.hid (HIN.out.push (x := ⟨3, 0, ⟨#[98]⟩⟩) HM.out (fits_txt (by decide) HT.out) hown')
            have HLT := Lib.hid (fun j hj => (World.ownsRow.lt HO.out j hj).1)
            have HB5 := Lib.hid ((below_alloc2 HB3.out).grown hgrow (by simp; omega) HLT.out)
            clear hgrow hown'
            go_wp2_with fail
            go_roundw
            case rel => exact ⟨k + 1, by omega, by go_num, HREL.out, HB5.out⟩
            case measure => simp [intOf]; omega
          · go_wp2_with (at_builtin; go_loud (refine wpList_append_own _ rfl _ _ 49 rfl w1.heap.size 48 i0 (.agg #[.int .i64 0, .int .i64 0, .string ByteArray.empty]) 3 32 Tryz.underlying49 hi0 hz0 hz1 hz2 rfl (by decide) _ _ _ rfl (World.ownsRow.alloc HO.out _) ⟨wr.heap.size + 1, 0, none⟩ 1 1 [.int .i64 3, .int .i64 0, .string ⟨#[120, 121, 122]⟩] rfl rfl ?c1 ?c2 ?c3 ?c4 ?c5 ?_))
            case c1 =>
              intro j u hj
              match j, hj with
              | 0, hj => simp at hj; subst hj; simp [Addr.add, go_sem]
              | 1, hj => simp at hj; subst hj; simp [Addr.add, go_sem]
              | 2, hj => simp at hj; subst hj; simp [Addr.add, go_sem]
            case c2 => intro u hu; simp at hu; rcases hu with rfl | rfl | rfl <;> rfl
            case c3 => unfold maxLen; omega
            case c4 => omega
            case c5 => simp; omega
            intro v' w5 hown' hgrow _
            have HREL := Lib.hid (HIN.out.push (x := ⟨3, 0, ⟨#[120, 121, 122]⟩⟩) HM.out (fits_txt (by decide) HT.out) hown')
            have HLT := Lib.hid (fun j hj => (World.ownsRow.lt HO.out j hj).1)
            have HB5 := Lib.hid ((below_alloc2 HB3.out).grown hgrow (by simp; omega) HLT.out)
            clear hgrow hown'
            go_wp2_with fail
            go_roundw
            case rel => exact ⟨k + 1, by omega, by go_num, HREL.out, HB5.out⟩
            case measure => simp [intOf]; omega
    · obtain rfl : k = ns.length := by omega
      go_wp2_with fail
      go_ret
      exact ⟨_, vs, rfl, Joins.ownsRow_le HIN.out.own hs1, HIN.out.len, HIN.out.ok, HB1.out.trans (HBR.out.mono hs1)⟩
end Go.Proofs.YtchoelgkcnnnkaaGreatDoor
