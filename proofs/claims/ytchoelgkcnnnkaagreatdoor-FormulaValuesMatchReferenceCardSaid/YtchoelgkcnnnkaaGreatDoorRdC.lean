/- WALKS: the reader's put. · WALKS: the reader's want. -/
import Derived.Test.YtchoelgkcnnnkaaGreatDoorRdA
import Derived.Deep.RegionLaw
import Derived.Deep.AppendLies
import Derived.Lib.OwnKind
set_option linter.all false
namespace Go.Proofs.YtchoelgkcnnnkaaGreatDoor
open Go.RowKit
/-- The cells of a row of terms. -/
def tmCells (ts : List Tm) : List Value := ts.flatMap fun t => [.int .i64 t.k, .int .i64 t.n, .string t.s]
/-- A slice that owns terms. -/
def OwnTms (w : World) (B : Nat) (v : Value) (ts : List Tm) : Prop := w.ownsRow B 24 3 v ts.length (tmCells ts)
theorem rd_grown {W w1 : World} {R : Nat} {s : ByteArray} {p : Nat} {v : Value} {ob : Option Nat} (H : RdAt W R s p v) (hg : W.grownBy w1 ob) (hob : ob ≠ some R) : RdAt w1 R s p v :=
  ⟨by rw [hg.block R (Array.getElem?_eq_some_iff.1 H.h).1 (fun h => hob h.symm)]; exact H.h, H.size⟩
theorem rd_set {W : World} {R : Nat} {s : ByteArray} {p : Nat} {v : Value} (H : RdAt W R s p v) (v' : Value) : RdAt (W.setCell ⟨R, 2, none⟩ v') R s p v' :=
  ⟨by simp [World.setCell, Array.getElem?_modify, H.h], H.size⟩
theorem rd_move {W : World} {R : Nat} {s : ByteArray} {p : Nat} {v : Value} (H : RdAt W R s p v) (p' : Nat) : RdAt (W.setCell ⟨R, 1, none⟩ (.int .i64 p')) R s p' v :=
  ⟨by simp [World.setCell, Array.getElem?_modify, H.h], H.size⟩
theorem grownBy_set2 (W : World) (b o : Nat) (v : Value) : W.grownBy (W.setCell ⟨b, o, none⟩ v) (some b) :=
  ⟨rfl, rfl, rfl, by simp [World.setCell], fun k _ hk => Below.heap_setCell _ _ _ _ (fun e => hk (by simp [e]))⟩
theorem own_set {W : World} {B R : Nat} {v u : Value} {n : Nat} {xs : List Value} (h : W.ownsRow B 24 3 v n xs) (hR : R < B) (o : Nat) : (W.setCell ⟨R, o, none⟩ u).ownsRow B 24 3 v n xs :=
  World.ownsRow.kept h (grownBy_set2 W R o u) (by
    cases hv : v.ownBlock with
    | none => simp
    | some g => have := (World.ownsRow.lt h g hv).1; right; simp; omega)
theorem grown_trans' {a b c : World} {row : Option Nat} (h : a.grownBy b row) (k : b.grownBy c row) : a.grownBy c row :=
  ⟨k.os.trans h.os, k.tape.trans h.tape, k.output.trans h.output, Nat.le_trans h.size k.size, fun i hi hne => (k.block i (Nat.lt_of_lt_of_le hi h.size) hne).trans (h.block i hi hne)⟩
theorem grown_drewN' (w : World) (n : Nat) (row : Option Nat) : w.grownBy (w.drewN n) row := ⟨rfl, rfl, rfl, Nat.le_refl _, fun _ _ _ => rfl⟩
theorem grown_of_below {w w' : World} (h : Below w.heap.size w w') (row : Option Nat) : w.grownBy w' row := ⟨h.os, h.tape, h.output, h.size, fun k hk _ => h.block k hk⟩
theorem below_of_grown {w w' : World} {R : Nat} (h : w.grownBy w' (some R)) (hR : R ≤ w.heap.size) : Below R w w' := ⟨h.os, h.tape, h.output, h.size, fun k hk => h.block k (by omega) (by simp; omega)⟩
/-- What a call of a reader's method keeps: all below the reader's block R, and every block beside it that is no row of terms. -/
def KeptR (R : Nat) (w w' : World) : Prop := Below R w w' ∧ Lib.OthersKept 24 (some R) w w'
theorem KeptR.trans {R : Nat} {a b c : World} (h : KeptR R a b) (k : KeptR R b c) : KeptR R a c := ⟨h.1.trans k.1, h.2.trans k.2⟩
theorem kept_of_grown {w w' : World} {R : Nat} (h : w.grownBy w' (some R)) (hR : R ≤ w.heap.size) : KeptR R w w' :=
  ⟨below_of_grown h hR, fun k o hk hne _ => by
    rw [h.block k (Array.getElem?_eq_some_iff.1 hk).1 hne]; exact hk⟩
theorem kept_of_below {w w' : World} {R : Nat} (h : Below w.heap.size w w') (hR : R ≤ w.heap.size) : KeptR R w w' := kept_of_grown (grown_of_below h _) hR
theorem KeptR.block {R : Nat} {w w' : World} (h : KeptR R w w') {k : Nat} {c : Array Value} {T : TypeId} {fz : Nat × Nat} (hk : w.heap[k]? = some (.cells c T fz)) (hT : T ≠ 24) (hkR : k ≠ R) : w'.heap[k]? = some (.cells c T fz) :=
  h.2 k _ hk (by simpa using hkR) (by rintro c' fz' h; cases h; exact hT rfl)
theorem info24 : (Tryz.prog.info? 24).map (fun i => (i.zero, i.size, i.bytes)) = some (some (.agg #[.int .i64 0, .int .i64 0, .string ByteArray.empty]), 3, 32) := by kernel_rfl
set_option maxRecDepth 100000 in
set_option maxHeartbeats 1000000 in
theorem put_any (R B : Nat) (s : ByteArray) (p : Nat) (v : Value) (ts : List Tm) (t : Tm) (w : World) (H : RdAt w R s p v) (hO : OwnTms w B v ts) (hB : B ≤ w.heap.size) (hR : R < B) (hl : ts.length ≤ 1000000000) :
    Calls Tryz.prog 84 #[.pointer (some ⟨R, 0, none⟩), t.agg] w fun e w' => e = .returned (.int .i64 ts.length) ∧ (∃ v', RdAt w' R s p v' ∧ OwnTms w' B v' (ts ++ [t])) ∧ KeptR R w w' := by
  obtain ⟨c0, c1, c2, f1, f2⟩ := H.cells
  obtain ⟨i0, hi0, hz0, hz1, hz2⟩ := info_parts info24
  have hs := H.size
  obtain ⟨k, n, s1⟩ := t
  unfold Tm.agg
  dsimp only
  have hRl : R < w.heap.size := by omega
  have hrd : RdAt (((w.alloc (.cells #[.int .i64 k, .int .i64 n, .string s1] 24)).alloc (.cells #[.int .i64 k, .int .i64 n, .string s1] 24)).drew) R s p v := by
    have h0 := (H.below (below1 w (.cells #[.int .i64 k, .int .i64 n, .string s1] 24))).below (below1 _ (.cells #[.int .i64 k, .int .i64 n, .string s1] 24))
    exact ⟨h0.h, h0.size⟩
  have HRD := Lib.hid hrd
  clear H hrd
  obtain ⟨a, c, rfl⟩ : ∃ a c, v = .slice a ts.length c := by
    rcases hO.2 with ⟨h1, h2⟩ | ⟨g, cap, cur, h1, _⟩
    · exact ⟨none, 0, by rw [h1, h2]⟩
    · exact ⟨_, _, h1⟩
  have hcs : ∀ j u, ([Value.int .i64 k, .int .i64 n, .string s1] : List Value)[j]? = some u → (((w.alloc (.cells #[.int .i64 k, .int .i64 n, .string s1] 24)).alloc (.cells #[.int .i64 k, .int .i64 n, .string s1] 24)).drew).cell? ((⟨w.heap.size + 1, 0, none⟩ : Addr).add j) = some u := by
    intro j u hj
    match j, hj with
    | 0, hj => simp at hj; subst hj; simp [Addr.add, go_sem]
    | 1, hj => simp at hj; subst hj; simp [Addr.add, go_sem]
    | 2, hj => simp at hj; subst hj; simp [Addr.add, go_sem]
  have HC := Lib.hid hcs
  clear hcs
  have hoo : World.ownsRow (((w.alloc (.cells #[.int .i64 k, .int .i64 n, .string s1] 24)).alloc (.cells #[.int .i64 k, .int .i64 n, .string s1] 24)).drew) B 24 3 (.slice a ts.length c) ts.length (tmCells ts) := (World.ownsRow.alloc hO _).alloc _
  have HOO := Lib.hid hoo
  clear hoo
  have hne : (Value.slice a ts.length c).ownBlock ≠ some R := by
    intro h
    have := (World.ownsRow.lt hO R h).1
    omega
  have HNE := Lib.hid hne
  clear hne
  have HO := Lib.hid hO
  clear hO
  go_enter Tryz.func84, Tryz.ntmps84
  go_wp2_with fail
  go_region_law (refine step_append_lies _ rfl _ _ 25 rfl B 24 i0 (.agg #[.int .i64 0, .int .i64 0, .string ByteArray.empty]) 3 32 Tryz.underlying25 hi0 hz0 hz1 hz2 rfl (by decide) _ _ _ rfl HOO.out ⟨w.heap.size + 1, 0, none⟩ 1 1 [.int .i64 k, .int .i64 n, .string s1] rfl rfl HC.out (by simp [Value.oneCell']) (by decide) (by simp [maxLen]; omega) (by omega) (by simp; omega) _ rfl ?_; intro g cap w1 hown hgrow hat hlt; have HG := Lib.hid hgrow; have HW := Lib.hid hown; have HAT := Lib.hid hat; have h1 := Lib.hid (rd_grown HRD.out hgrow HNE.out); clear hgrow hown hat; obtain ⟨e0, e1, e2, g1, g2⟩ := h1.out.cells)
  all_goals
    have hbel : Below R w w1 := by
      have h3 : Below R w (((w.alloc (.cells #[.int .i64 k, .int .i64 n, .string s1] 24)).alloc (.cells #[.int .i64 k, .int .i64 n, .string s1] 24)).drew) :=
        below_drewN' (((below1 w _).mono (by omega)).trans ((below1 _ _).mono (by simp; omega))) 1
      refine h3.grown HG.out (by simp; omega) (fun k hk => ?_)
      have := (World.ownsRow.lt HO.out k hk).1
      omega
    have hb0 : Below w.heap.size w (((w.alloc (.cells #[.int .i64 k, .int .i64 n, .string s1] 24)).alloc (.cells #[.int .i64 k, .int .i64 n, .string s1] 24)).drew) := below_drewN' ((below1 w _).trans ((below1 _ _).mono (by simp))) 1
    have HBL := Lib.hid (show KeptR R w w1 from ⟨hbel, ((kept_of_below hb0 (by omega)).2).grown HG.out (Lib.ownsRow_kind HOO.out)⟩)
    clear hb0
    clear hbel
    go_wp2
    go_ret
    refine ⟨ret_int (by omega), ⟨_, rd_set h1.out _, ?_⟩, ⟨HBL.out.1.setCell (p := ⟨R, 2, none⟩) (Nat.le_refl _) _, HBL.out.2.setCell ⟨R, 2, none⟩ rfl _⟩⟩
    have := own_set (u := .slice (some ⟨g, 0, none⟩) (ts.length + 1) cap) HW.out hR 2
    simpa [OwnTms, tmCells] using this
end Go.Proofs.YtchoelgkcnnnkaaGreatDoor
namespace Go.Proofs.YtchoelgkcnnnkaaGreatDoor
open Go.RowKit
theorem rd_move' {W : World} {R : Nat} {s : ByteArray} {p : Nat} {v : Value} (H : RdAt W R s p v) (p' : Nat) (z : Int) (hz : z = (p' : Int)) : RdAt (W.setCell ⟨R, 1, none⟩ (.int .i64 z)) R s p' v := by
  subst hz; exact rd_move H p'
set_option maxRecDepth 100000 in
set_option maxHeartbeats 1000000 in
theorem want_ok (R : Nat) (s T : ByteArray) (p : Nat) (v : Value) (w : World) (H : RdAt w R s p v) (hT : T.size ≤ 100) (hm : ∀ (j : Nat) (hj : j < T.size), ∃ h : p + j < s.size, s[p + j]'h = T[j]'hj) :
    Calls Tryz.prog 83 #[.pointer (some ⟨R, 0, none⟩), .string T] w fun e w' => e = .returned (.tuple #[]) ∧ RdAt w' R s (p + T.size) v ∧ w.grownBy w' (some R) := by
  have hs := H.size
  have HH := Lib.hid H
  have HM := Lib.hid hm
  clear H hm
  go_enter Tryz.func83, Tryz.ntmps83
  go_wp2_with fail
  go_loopw [7] (fun i wr => ∃ j : Nat, j ≤ T.size ∧ i = .int .i64 j ∧ RdAt wr R s (p + j) v ∧ w.grownBy wr (some R)) (fun i _ => T.size - (intOf i).toNat)
  case atStart => exact ⟨0, Nat.zero_le _, rfl, HH.out, World.grownBy.refl _ _⟩
  case round =>
    obtain ⟨j, hj, rfl, hr, hb⟩ := hrel
    obtain ⟨x, hx⟩ : ∃ x, x = p + j := ⟨_, rfl⟩
    rw [← hx] at hr
    obtain ⟨c0, c1, c2, f1, f2⟩ := hr.cells
    have HR := Lib.hid hr
    clear hr
    by_cases hjl : j < T.size
    · obtain ⟨h1, h2⟩ := HM.out j hjl
      subst hx
      obtain ⟨x, hx⟩ : ∃ x, x = p + j := ⟨_, rfl⟩
      have h3 : x < s.size := by omega
      have h4 : s[x]'h3 = T[j]'hjl := by subst hx; exact h2
      have h5 : (((s[x]'h3).toNat : Int) != ((T[j]'hjl).toNat : Int)) = false := by rw [h4]; simp
      rw [← hx] at c1 HR
      have HX := Lib.hid hx
      have e1 : decide (s.size ≤ x) = false := by simp; omega
      clear h1 h2 h4 hx
      go_wp2_with fail
      go_quiet (fail)
      have hB : Below wr.heap.size wr (wr.drewN nq) := below_drewN' (Below.refl _ _) _
      have H2 := Lib.hid (HR.out.below hB)
      clear hB
      go_wp2
      go_roundw
      case rel => exact ⟨j + 1, by omega, by go_num, by rw [show p + (j + 1) = x + 1 by have := HX.out; omega]; exact rd_move' H2.out _ _ (by omega), (grown_trans' (grown_trans' hb (grown_drewN' _ _ _)) (grownBy_set2 _ R 1 _))⟩
      case measure => simp [intOf]; omega
    · obtain rfl : j = T.size := by omega
      go_wp2
      go_end0
      exact ⟨rfl, hx ▸ HR.out, hb⟩
set_option maxRecDepth 100000 in
set_option maxHeartbeats 1000000 in
theorem want_bad (R : Nat) (s T : ByteArray) (p : Nat) (v : Value) (w : World) (H : RdAt w R s p v) (hT : T.size ≤ 100) (j0 : Nat) (hj0 : j0 < T.size) (hm : ∀ (j : Nat) (hj : j < j0), ∃ h : p + j < s.size, s[p + j]'h = T[j]'(by omega)) (hbad : s.size ≤ p + j0 ∨ ∃ h : p + j0 < s.size, s[p + j0]'h ≠ T[j0]'hj0) :
    Calls Tryz.prog 83 #[.pointer (some ⟨R, 0, none⟩), .string T] w fun e w' => e = .panicked [{ v := .iface 94 (.int .i64 (p + j0 : Nat)), recovered := false }] ∧ Below R w w' := by
  have hs := H.size
  have HH := Lib.hid H
  have HM := Lib.hid hm
  clear H hm
  go_enter Tryz.func83, Tryz.ntmps83
  go_wp2_with fail
  go_loopw [7] (fun i wr => ∃ j : Nat, j ≤ j0 ∧ i = .int .i64 j ∧ RdAt wr R s (p + j) v ∧ Below R w wr) (fun i _ => T.size - (intOf i).toNat)
  case atStart => exact ⟨0, Nat.zero_le _, rfl, HH.out, Below.refl _ _⟩
  case round =>
    obtain ⟨j, hj, rfl, hr, hb⟩ := hrel
    obtain ⟨x, hx⟩ : ∃ x, x = p + j := ⟨_, rfl⟩
    rw [← hx] at hr
    obtain ⟨c0, c1, c2, f1, f2⟩ := hr.cells
    have HR := Lib.hid hr
    clear hr
    by_cases hjl0 : j < j0
    · obtain ⟨h1, h2⟩ := HM.out j hjl0
      have hjl : j < T.size := by omega
      subst hx
      obtain ⟨x, hx⟩ : ∃ x, x = p + j := ⟨_, rfl⟩
      have h3 : x < s.size := by omega
      have h4 : s[x]'h3 = T[j]'hjl := by subst hx; exact h2
      have h5 : (((s[x]'h3).toNat : Int) != ((T[j]'hjl).toNat : Int)) = false := by rw [h4]; simp
      rw [← hx] at c1 HR
      have HX := Lib.hid hx
      have e1 : decide (s.size ≤ x) = false := by simp; omega
      clear h1 h2 h4 hx
      go_wp2_with fail
      go_quiet (fail)
      have hB : Below wr.heap.size wr (wr.drewN nq) := below_drewN' (Below.refl _ _) _
      have H2 := Lib.hid (HR.out.below hB)
      clear hB
      go_wp2
      go_roundw
      case rel => exact ⟨j + 1, by omega, by go_num, by rw [show p + (j + 1) = x + 1 by have := HX.out; omega]; exact rd_move' H2.out _ _ (by omega), ((below_drewN hb _).setCell (p := ⟨R, 1, none⟩) (Nat.le_refl _) _)⟩
      case measure => simp [intOf]; omega
    · obtain rfl : j = j0 := by omega
      have hjl : j < T.size := hj0
      rw [← hx] at hbad
      have HX := Lib.hid hx
      clear hx
      rcases hbad with h3 | ⟨h3, h4⟩
      · have e1 : decide (s.size ≤ x) = true := by simp; omega
        go_wp2_with fail
        go_quiet (fail)
        have hB : Below wr.heap.size wr (wr.drewN nq) := below_drewN' (Below.refl _ _) _
        have H2 := Lib.hid (HR.out.below hB)
        clear hB
        go_wp2_with fail
        refine (fail_any R s x v _ H2.out).mono ?_
        rintro e w' ⟨rfl, rfl⟩
        go_wp2
        exact ⟨rfl, by rw [HX.out], below_drewN hb _⟩
      · have h5 : (((s[x]'h3).toNat : Int) != ((T[j]'hjl).toNat : Int)) = true := by
          simp only [bne_iff_ne, ne_eq]
          intro h
          exact h4 (UInt8.toNat_inj.1 (Int.ofNat_inj.1 h))
        have e1 : decide (s.size ≤ x) = false := by simp; omega
        clear h4
        go_wp2_with fail
        go_quiet (fail)
        have hB : Below wr.heap.size wr (wr.drewN nq) := below_drewN' (Below.refl _ _) _
        have H2 := Lib.hid (HR.out.below hB)
        clear hB
        go_wp2_with fail
        refine (fail_any R s x v _ H2.out).mono ?_
        rintro e w' ⟨rfl, rfl⟩
        go_wp2
        exact ⟨rfl, by rw [HX.out], below_drewN hb _⟩
end Go.Proofs.YtchoelgkcnnnkaaGreatDoor
