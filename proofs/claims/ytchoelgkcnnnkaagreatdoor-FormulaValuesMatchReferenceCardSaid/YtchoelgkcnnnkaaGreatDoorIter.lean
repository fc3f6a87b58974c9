/- slices.Backward over terms: what its function hands to the body of a loop. -/
import Derived.RangeFuncNested
import Derived.RangeFuncBound
import Derived.RangeFuncCalls
import Derived.RangeFuncLeaves
import Derived.Shelf.Abstract
import Derived.Shelf.RegionOpen
import Derived.OwnWalkIn
import Derived.TacticsInMore
import Derived.LoopNIn
import Derived.LoopIn
import Derived.Test.YtchoelgkcnnnkaaGreatDoorMem
namespace Go.Proofs.YtchoelgkcnnnkaaGreatDoor
open Go.RowKit Go.Shelf
attribute [local go_sem] Oper.semAt_some

/-- A term whose text is no longer than memory lets it be. -/
abbrev TmS := { t : Tm // t.s.size ≤ 9223372036854775807 }
def encIT (x : Nat × TmS) : Array Value := #[.int .i64 (x.1 : Int), x.2.1.agg]
def termsOf (ys : List (Nat × TmS)) : List Tm := (ys.map (·.2.1)).reverse

theorem termsOf_snoc (ys : List (Nat × TmS)) (i : Nat) (t : TmS) : termsOf (ys ++ [(i, t)]) = t.1 :: termsOf ys := by simp [termsOf]

/-- What a round keeps: what lay ahead of the call, and the box of the slice. -/
def KeepB (n₀ Bs : Nat) (W W' : World) : Prop := Below n₀ W W' ∧ ∀ v, Boxed W Bs 25 v → Boxed W' Bs 25 v
theorem keepB_t {n₀ Bs : Nat} {A B C : World} (h : KeepB n₀ Bs A B) (k : KeepB n₀ Bs B C) : KeepB n₀ Bs A C := ⟨h.1.trans k.1, fun v hv => k.2 v (h.2 v hv)⟩
theorem keepB_b {n₀ Bs : Nat} {w : World} (hn : n₀ ≤ w.heap.size) (W : World) (l : Nat) (o o' : Obj) (hl : w.heap.size ≤ l) (h : W.heap[l]? = some o) (h1 : o.isCells = false) (h2 : o.isWalk = false) : KeepB n₀ Bs W (W.putObj l o') :=
  ⟨belowK_b hn W l o o' hl h h1 h2, fun v hv => hv.kept (grownBy_putObj' W l o') (fun e => by
    obtain rfl : Bs = l := by simpa using e
    rw [show W.heap[Bs]? = _ from hv] at h; cases h; cases h1)⟩

set_option maxRecDepth 100000 in
set_option maxHeartbeats 1000000 in
theorem back1_in (n : Nat) (hn : 1 ≤ n) (l Bs n₀ b off c : Nat) (ts : List Tm) (hlen : ts.length ≤ 9223372036854775807) (J Jx : List (Nat × TmS) → World → Prop)
    (hY : ∀ pre x W, J pre W → pre.length < ts.length → YieldAt Fence.wide (n - 1) Tryz.prog l (encIT x) W fun e W' =>
      (e = .returned (.bool true) ∧ J (pre ++ [x]) W' ∧ KeepB n₀ Bs W W') ∨ (e = .returned (.bool false) ∧ Jx (pre ++ [x]) W'))
    (W : World) (hBs : Boxed W Bs 25 (.slice (some ⟨b, off, none⟩) ts.length c)) (hb : b < n₀) (hL : RowIn W b off ts) (h0 : J [] W) :
    CallsIn Fence.wide n Tryz.prog 122 #[.func (.yield l) #[] #[], .pointer (some ⟨Bs, 0, none⟩)] W fun e W' => (∃ v, e = .returned v) ∧
      ((∃ ys, termsOf ys = ts ∧ J ys W') ∨ (∃ pre, (∃ r, r ++ termsOf pre = ts) ∧ Jx pre W')) := by
  refine callsIn_of_wp Tryz.func122 rfl trivial ?_ rfl
  simp only [Tryz.ntmps122, List.size_toArray, List.length_cons, List.length_nil, Nat.reduceAdd, Nat.reduceSub, Array.replicate_succ, Array.replicate_zero, List.push_toArray, List.append_toArray, List.nil_append, List.cons_append]
  have hc0 := hBs.cell
  gi_wp2
  gi_loopw [3] (fun p wr => ∃ (k : Nat) (pre : List (Nat × TmS)), k ≤ ts.length ∧ p = .int .i64 ((k : Int) - 1) ∧ pre.length + k = ts.length ∧ termsOf pre = ts.drop k ∧ Boxed wr Bs 25 (.slice (some ⟨b, off, none⟩) ts.length c) ∧ RowIn wr b off ts ∧ J pre wr)
    (fun p _ => (intOf p + 1).toNat)
  case atStart =>
    exact ⟨ts.length, [], Nat.le_refl _, rfl, by simp, by simp [termsOf], hBs, hL, h0⟩
  case round =>
    obtain ⟨k, pre, hk, rfl, hpl, hpt, hbx, hrow, hJ⟩ := hrel
    have hcx := hbx.cell
    clear hc0
    cases k with
    | zero =>
      gi_wp2
      go_end0
      exact ⟨⟨_, rfl⟩, .inl ⟨pre, by simpa using hpt, hJ⟩⟩
    | succ k =>
      obtain ⟨t, ht⟩ : ∃ t, ts[k]? = some t := ⟨ts[k], by simp⟩
      obtain ⟨q1, q2, q3, q4⟩ := hrow k t ht
      obtain ⟨fn, tmps, assign, body, hy, hR⟩ := hY pre (k, ⟨t, q4⟩) wr hJ (by omega)
      unfold encIT Tm.agg at hy
      dsimp only at hy
      have e1 : ((k + 1 : Nat) : Int) - 1 = (k : Int) := by omega
      rw [e1]
      have HP := Lib.hid hpt
      have HL := Lib.hid hpl
      clear hpt hpl e1
      gi_wp2
      refine hR.mono ?_
      have htl : termsOf (pre ++ [(k, ⟨t, q4⟩)]) = ts.drop k := by
        have hlt : k < ts.length := by omega
        have e : ts[k] = t := by rw [List.getElem?_eq_getElem hlt] at ht; cases ht; rfl
        rw [termsOf_snoc, HP.out, List.drop_eq_getElem_cons hlt, e]
      have HT := Lib.hid htl
      clear htl
      rintro e W3 (⟨rfl, hJ3, hk3⟩ | ⟨rfl, hJx3⟩)
      · gi_wp2
        go_roundw
        case rel => exact ⟨k, pre ++ [(k, ⟨t, q4⟩)], by omega, rfl, by have := HL.out; simp; omega, HT.out, hk3.2 _ hbx, hrow.below hk3.1 hb, hJ3⟩
        case measure => simp [intOf]
      · gi_wp2
        refine bodyPost_ret (results_none rfl _ _ _) rfl ?_
        exact ⟨⟨_, rfl⟩, .inr ⟨pre ++ [(k, ⟨t, q4⟩)], ⟨ts.take k, by rw [HT.out, List.take_append_drop]⟩, hJx3⟩⟩

set_option maxRecDepth 100000 in
set_option maxHeartbeats 1000000 in
theorem back1_nil_in (n : Nat) (l Bs c : Nat) (a : Option Addr) (J Jx : List (Nat × TmS) → World → Prop)
    (W : World) (hBs : Boxed W Bs 25 (.slice a 0 c)) (h0 : J [] W) :
    CallsIn Fence.wide n Tryz.prog 122 #[.func (.yield l) #[] #[], .pointer (some ⟨Bs, 0, none⟩)] W fun e W' => (∃ v, e = .returned v) ∧
      ((∃ ys, termsOf ys = [] ∧ J ys W') ∨ (∃ pre, (∃ r, r ++ termsOf pre = []) ∧ Jx pre W')) := by
  refine callsIn_of_wp Tryz.func122 rfl trivial ?_ rfl
  simp only [Tryz.ntmps122, List.size_toArray, List.length_cons, List.length_nil, Nat.reduceAdd, Nat.reduceSub, Array.replicate_succ, Array.replicate_zero, List.push_toArray, List.append_toArray, List.nil_append, List.cons_append]
  have hc0 := hBs.cell
  gi_wp2
  refine wpIn_loop_rounds 1 ?_
  rw [roundsIn_succ]
  gi_wp2
  go_end0
  exact ⟨⟨_, rfl⟩, .inl ⟨[], rfl, h0⟩⟩

/-- WHAT slices.Backward's FUNCTION DOES, at every slice of terms: all of them, from the end; or a part, where a round has said 'no more'. -/
theorem back_stops (n : Nat) (hn : 1 ≤ n) (Bs n₀ : Nat) (v : Value) (ts : List Tm) (hlen : ts.length ≤ 9223372036854775807) (w : World) (hn₀ : n₀ ≤ w.heap.size) (hBs : Boxed w Bs 25 v) (w0 : World) (hI : TermsIn w0 v ts) (hw0 : w0.heap.size = n₀) (hb0 : Below n₀ w0 w) :
    SeqStopsK Fence.wide n Tryz.prog 122 #[.pointer (some ⟨Bs, 0, none⟩)] encIT (KeepB n₀ Bs) (fun ys => termsOf ys = ts) (fun pre => ∃ r, r ++ termsOf pre = ts) ts.length w := fun l J Jx W hW _ _ hY h0 => by
  obtain ⟨a, c, rfl, hc, hs, hr⟩ := hI
  have hb : Boxed W Bs 25 (.slice a ts.length c) := (hW.block Bs hBs.lt).trans hBs
  by_cases hn : ts = []
  · subst hn
    exact back1_nil_in n l Bs c a J Jx W hb h0
  · obtain ⟨b, off, rfl, hrow⟩ := hr hn
    have hbn : b < n₀ := hw0 ▸ hrow.lt hn
    exact back1_in n (by assumption) l Bs n₀ b off c ts hlen J Jx hY W hb hbn ((hrow.below hb0 hbn).below hW (by omega)) h0
end Go.Proofs.YtchoelgkcnnnkaaGreatDoor
