/- WALK: formula.depths: the pile of depths of formulas that are written one after the other, read from the end. · WALK: formula.Valid. · WALK: formula.Names. -/
import Derived.Test.YtchoelgkcnnnkaaGreatDoorIter
set_option linter.all false
namespace Go.Proofs.YtchoelgkcnnnkaaGreatDoor
open Go.RowKit Go.Shelf
attribute [local go_sem] Oper.semAt_some

theorem Pl.pile_bounds : ∀ (ts : List Tm) (p : List Nat), Pl.pile ts = some p → p.length ≤ ts.length ∧ ∀ d ∈ p, d ≤ ts.length
  | [], p, h => by simp [Pl.pile] at h; subst h; simp
  | t :: ts, p, h => by
    simp only [Pl.pile, Option.bind_eq_some_iff] at h
    obtain ⟨q, hq, h⟩ := h
    obtain ⟨h1, h2⟩ := Pl.pile_bounds ts q hq
    by_cases hc : (Pl.formed t && decide (Pl.operandsOf t.k ≤ (q.length : Int))) = true
    · rw [if_pos hc] at h
      simp only [Option.some.injEq] at h
      subst h
      have hm : ∀ (l : List Nat) (a b : Nat), a ≤ b → (∀ d ∈ l, d ≤ b) → l.foldl max a ≤ b := by
        intro l
        induction l with
        | nil => intro a b ha _; exact ha
        | cons x l ih =>
          intro a b ha hl
          exact ih _ _ (by have := hl x (by simp); omega) (fun d hd => hl d (by simp [hd]))
      refine ⟨by simp; omega, fun d hd => ?_⟩
      rcases List.mem_cons.1 hd with rfl | hd
      · have := hm (q.take (Pl.operandsOf t.k).toNat) 0 ts.length (by omega) (fun d hd => h2 d (List.mem_of_mem_take hd))
        simp; omega
      · have := h2 d (List.mem_of_mem_drop hd)
        simp; omega
    · rw [if_neg hc] at h; simp at h
theorem Pl.pile_none_append (r l : List Tm) (h : Pl.pile l = none) : Pl.pile (r ++ l) = none := by
  induction r with
  | nil => exact h
  | cons t r ih => simp [Pl.pile, ih]

def pileV (p : List Nat) : List Value := p.reverse.map (fun d : Nat => Value.int .i64 (d : Int))

theorem backward_in (n : Nat) (a : Option Addr) (m c : Nat) (w : World) :
    CallsIn Fence.wide n Tryz.prog 75 #[.slice a m c] w fun e w' => e = .returned (.func (.func 122) #[] #[.pointer (some ⟨w.heap.size, 0, none⟩)]) ∧ w' = w.alloc (.cells #[.slice a m c] 25) := by
  refine callsIn_of_wp Tryz.func75 rfl trivial ?_ rfl
  simp only [Tryz.ntmps75, List.size_toArray, List.length_cons, List.length_nil, Nat.reduceAdd, Nat.reduceSub, Array.replicate_succ, Array.replicate_zero, List.push_toArray, List.append_toArray, List.nil_append, List.cons_append]
  gi_wp2
  go_ret
  exact ⟨rfl, rfl⟩

theorem boxed_below {W w1 : World} {B : Nat} {t : TypeId} {v : Value} (h : Boxed W B t v) (hb : Below W.heap.size W w1) : Boxed w1 B t v := (hb.block B h.lt).trans h
theorem boxed_put {W : World} {B : Nat} {t : TypeId} {v : Value} {D : Nat} {o : Obj} (h : Boxed W B t v) (hD : W.heap[D]? = some o) (ho : o.isCells = false) (o' : Obj) : Boxed (W.putObj D o') B t v :=
  h.kept (grownBy_putObj' W D o') (fun e => by
    obtain rfl : B = D := by simpa using e
    rw [show W.heap[B]? = _ from h] at hD; cases hD; cases ho)
theorem keepsOthers_below {W w1 : World} (hb : Below W.heap.size W w1) : KeepsOthers W w1 := ⟨hb.size, fun k _ hk _ => (hb.block k (Array.getElem?_eq_some_iff.1 hk).1).trans hk⟩
theorem ownsRow_below {W w1 : World} {base : Nat} {e : TypeId} {size : Nat} {v : Value} {k : Nat} {xs : List Value} (h : W.ownsRow base e size v k xs) (hb : Below W.heap.size W w1) : w1.ownsRow base e size v k xs :=
  h.kept (row := none) ⟨hb.os, hb.tape, hb.output, hb.size, fun j hj _ => hb.block j hj⟩ (by cases hv : v.ownBlock <;> simp)

/-- The shape of a slice that owns a pile. -/
theorem owns_shape {W : World} {B : Nat} {v : Value} {n : Nat} {xs : List Value} (h : W.ownsRow B 3 1 v n xs) :
    (v = .slice none 0 0 ∧ n = 0) ∨ ∃ g cap, v = .slice (some ⟨g, 0, none⟩) n cap ∧ n ≤ cap ∧ cap ≤ maxLen ∧ g < W.heap.size ∧ ∀ j x, xs[j]? = some x → W.cell? ⟨g, j, none⟩ = some x := by
  obtain ⟨h0, h2⟩ := h
  rcases h2 with h2 | ⟨g, cap, cur, hv, hg, hh, hn, hcap, hsz, htake⟩
  · exact .inl h2
  · refine .inr ⟨g, cap, hv, hn, hcap, (Array.getElem?_eq_some_iff.1 hh).1, fun j x hx => ?_⟩
    simp only [World.cell?, hh]
    simp only [Nat.mul_one] at htake
    rw [← htake] at hx
    have hj : j < n := by
      have := (List.getElem?_eq_some_iff.1 hx).1
      simp at this; omega
    rw [List.getElem?_take_of_lt hj] at hx
    simpa using hx
/-- A slice that owns the first part. -/
theorem owns_prefix {W : World} {B g cap m : Nat} {xs ys : List Value} (h : W.ownsRow B 3 1 (.slice (some ⟨g, 0, none⟩) (xs.length + m) cap) (xs.length + m) (xs ++ ys)) : W.ownsRow B 3 1 (.slice (some ⟨g, 0, none⟩) xs.length cap) xs.length xs := by
  obtain ⟨h0, h2⟩ := h
  rcases h2 with ⟨h2, _⟩ | ⟨g', cap', cur, hv, hg, hh, hn, hcap, hsz, htake⟩
  · cases h2
  · cases hv
    refine ⟨by simp, .inr ⟨g, cap, cur, rfl, hg, hh, by omega, hcap, hsz, ?_⟩⟩
    simp only [Nat.mul_one] at htake ⊢
    have := congrArg (List.take xs.length) htake
    rw [List.take_take, List.take_left, Nat.min_eq_left (by omega)] at this
    exact this

theorem pileV_length (p : List Nat) : (pileV p).length = p.length := by simp [pileV]
theorem pileV_cons (d : Nat) (p : List Nat) : pileV (d :: p) = pileV p ++ [.int .i64 (d : Int)] := by simp [pileV]

/-- The end of a round in which the reading gives up. -/
theorem depths_ret {w W w1 : World} {B0 Bo Bp : Nat} {v : Value} {N : Prop} (hP : Boxed W Bp 46 v) (hO : Boxed W Bo 4 (.bool false)) (hne : Bp ≠ Bo) (hB : Below w.heap.size w W) (hb1 : Below W.heap.size W w1) (hBp : w.heap.size ≤ Bp) (hBo : w.heap.size ≤ Bo) (hN : N) :
    KeepsFrom B0 W ((w1.setCell ⟨Bp, 0, none⟩ (.slice none 0 0)).setCell ⟨Bo, 0, none⟩ (.bool false)) ∧
      ((Code.ret = .ret ∧ N) ∧ (Boxed ((w1.setCell ⟨Bp, 0, none⟩ (.slice none 0 0)).setCell ⟨Bo, 0, none⟩ (.bool false)) Bp 46 (.slice none 0 0) ∧ Boxed ((w1.setCell ⟨Bp, 0, none⟩ (.slice none 0 0)).setCell ⟨Bo, 0, none⟩ (.bool false)) Bo 4 (.bool false))) ∧
      Below w.heap.size w ((w1.setCell ⟨Bp, 0, none⟩ (.slice none 0 0)).setCell ⟨Bo, 0, none⟩ (.bool false)) := by
  have h1 := boxed_below hP hb1
  have h2 := boxed_below hO hb1
  refine ⟨(((keepsOthers_below hb1).trans (KeepsOthers.setCell _ _ _)).trans (KeepsOthers.setCell _ _ _)).from _, ⟨⟨rfl, hN⟩, (h1.set _).other hne _, (h2.other hne.symm _).set _⟩, ?_⟩
  exact ((hB.trans (hb1.mono hB.size)).setCell (p := ⟨Bp, 0, none⟩) hBp _).setCell (p := ⟨Bo, 0, none⟩) hBo _

/-- The end of a round that goes on. -/
theorem depths_on {w W w1 w2 : World} {B0 Bo Bp Bs : Nat} {v v' : Value} {p q : List Nat} {tmp : Obj} {m d : Nat} (hP : Boxed W Bp 46 v) (hO : Boxed W Bo 4 (.bool false)) (hne : Bp ≠ Bo) (hns : Bp ≠ Bs) (hB : Below w.heap.size w W) (hb1 : Below W.heap.size W w1) (hBp : w.heap.size ≤ Bp)
    (hrow : W.ownsRow w.heap.size 3 1 v p.length (pileV p)) (hown' : w2.ownsRow w.heap.size 3 1 v' m (pileV (d :: q))) (hm : m = q.length + 1) (hgrow : (w1.alloc tmp).grownBy w2 v.ownBlock) :
    KeepsFrom B0 W (w2.setCell ⟨Bp, 0, none⟩ v') ∧ KeepB w.heap.size Bs W (w2.setCell ⟨Bp, 0, none⟩ v') ∧
      ((∃ u, Boxed (w2.setCell ⟨Bp, 0, none⟩ v') Bp 46 u ∧ (w2.setCell ⟨Bp, 0, none⟩ v').ownsRow w.heap.size 3 1 u (d :: q).length (pileV (d :: q)) ∧ True) ∧ Boxed (w2.setCell ⟨Bp, 0, none⟩ v') Bo 4 (.bool false)) ∧ Below w.heap.size w (w2.setCell ⟨Bp, 0, none⟩ v') := by
  have h1 := boxed_below hP hb1
  have h2 := boxed_below hO hb1
  have hr1 := ownsRow_below hrow hb1
  subst hm
  obtain ⟨a1, a2, a3, a4, a5⟩ := h1.appended (by decide) hr1 (Nat.le_trans hB.size hb1.size) hBp hown' hgrow
  have hBB : Below w.heap.size W w1 := hb1.mono hB.size
  refine ⟨((keepsOthers_below hb1).trans a4).from _, ⟨hBB.trans a5, fun u hu => ?_⟩, ⟨⟨v', a2, a3, trivial⟩, ?_⟩, hB.trans (hBB.trans a5)⟩
  · have hu1 := boxed_below hu hb1
    exact ((hu1.alloc tmp).kept hgrow (hu1.not_row (by decide) hr1)).other hns.symm _
  · exact ((h2.alloc tmp).kept hgrow (h2.not_row (by decide) hr1)).other hne.symm _

/-- What formula.depths hands back. -/
def DepthsPost (ts : List Tm) (w : World) (e : Ending) (W' : World) : Prop :=
  (∃ v p, Pl.pile ts = some p ∧ e = .returned (.tuple #[v, .bool true]) ∧ W'.ownsRow w.heap.size 3 1 v p.length (pileV p) ∧ Below w.heap.size w W') ∨
    (Pl.pile ts = none ∧ e = .returned (.tuple #[.slice none 0 0, .bool false]) ∧ Below w.heap.size w W')

theorem info3 : (Tryz.prog.info? 3).map (fun i => (i.zero, i.size, i.bytes)) = some (some (.int .i64 0), 1, 8) := by kernel_rfl

set_option maxRecDepth 100000 in
set_option maxHeartbeats 4000000 in
theorem depths_in (n : Nat) (hn : 6 ≤ n) (a : Option Addr) (c : Nat) (ts : List Tm) (hlen : ts.length ≤ 1000) (w : World) (hT : TermsIn w (.slice a ts.length c) ts) :
    CallsIn Fence.wide n Tryz.prog 53 #[.slice a ts.length c] w (DepthsPost ts w) := by
  have h1 : 1 ≤ n := by omega
  have h1' : 1 ≤ n - 1 - 1 := by omega
  refine callsIn_of_wp_marks Tryz.func53 rfl trivial ?_ rfl
  simp only [Tryz.ntmps53, List.size_toArray, List.length_cons, List.length_nil, Nat.reduceAdd, Nat.reduceSub, Array.replicate_succ, Array.replicate_zero, List.push_toArray, List.append_toArray, List.nil_append, List.cons_append]
  gi_wp2_with (refine ⟨trivial, ?_⟩; gi_at_call 75; refine (backward_in (n - 1) _ _ _ _).mono ?_; rintro e w' ⟨rfl, rfl⟩)
  have bP := ((Boxed.new w 46 (.slice none 0 0)).alloc (.cells #[.bool false] 4)).alloc (.cells #[.slice a ts.length c] 25)
  have bO := (Boxed.new (w.alloc (.cells #[.slice none 0 0] 46)) 4 (.bool false)).alloc (.cells #[.slice a ts.length c] 25)
  have bS := Boxed.new ((w.alloc (.cells #[.slice none 0 0] 46)).alloc (.cells #[.bool false] 4)) 25 (.slice a ts.length c)
  simp only [World.size_alloc] at bP bO bS
  have hB0 : Below w.heap.size w (((w.alloc (.cells #[.slice none 0 0] 46)).alloc (.cells #[.bool false] 4)).alloc (.cells #[.slice a ts.length c] 25)) := (((Below.refl _ w).alloc (Nat.le_refl _) _).alloc (by simp) _).alloc (by simp; omega) _
  have hsz : (((w.alloc (.cells #[.slice none 0 0] 46)).alloc (.cells #[.bool false] 4)).alloc (.cells #[.slice a ts.length c] 25)).heap.size = w.heap.size + 3 := by simp
  obtain ⟨W0, hW0⟩ : ∃ W0, ((w.alloc (.cells #[.slice none 0 0] 46)).alloc (.cells #[.bool false] 4)).alloc (.cells #[.slice a ts.length c] 25) = W0 := ⟨_, rfl⟩
  rw [hW0] at bP bO bS hB0 hsz ⊢
  clear hW0
  refine wpIn_rangeFunc_ownH rfl h1 (gf := 122) (lb := #[.pointer (some ⟨w.heap.size + 1 + 1, 0, none⟩)]) rfl trivial (enters_of Tryz.func122 (by kernel_rfl) rfl)
    (back_stops (n - 1) (by omega) (w.heap.size + 1 + 1) w.heap.size _ ts (by omega) W0 (by omega) bS w hT rfl hB0) keepB_t (keepB_b (by omega)) (Below.refl _ _) (fun _ => rfl)
    (fun pre W => ((∃ v, Boxed W w.heap.size 46 v ∧ W.ownsRow w.heap.size 3 1 v ((Pl.pile (termsOf pre)).getD []).length (pileV ((Pl.pile (termsOf pre)).getD [])) ∧ True) ∧ Boxed W (w.heap.size + 1) 4 (.bool false)) ∧ (Pl.pile (termsOf pre) ≠ none ∧ Below w.heap.size w W))
    (fun c pre W => ((c = .ret ∧ Pl.pile (termsOf pre) = none) ∧ (Boxed W w.heap.size 46 (.slice none 0 0) ∧ Boxed W (w.heap.size + 1) 4 (.bool false))) ∧ Below w.heap.size w W)
    (OwnFrom.and (OwnFrom.and (Own.from (holdsRow_own _ _ _ _ _ (fun pre => ((Pl.pile (termsOf pre)).getD []).length) (fun pre => pileV ((Pl.pile (termsOf pre)).getD [])) (fun _ _ => True)) _) (Own.from (boxed_own _ _ _) _)) (OwnFrom.and (ownFrom_pure _ _) (ownFrom_below (Nat.le_refl _) (by omega))))
    (fun c => OwnFrom.and (OwnFrom.and (ownFrom_pure _ _) (OwnFrom.and (Own.from (boxed_own _ _ _) _) (Own.from (boxed_own _ _ _) _))) (ownFrom_below (Nat.le_refl _) (by omega)))
    ⟨⟨⟨_, bP, World.ownsRow_nil _ _ _ _, trivial⟩, bO⟩, by simp [termsOf, Pl.pile], hB0⟩
    (fun x a' W => ∃ Bx, W.heap[Bx]? = some (.cells #[.int .i64 x.2.1.k, .int .i64 x.2.1.n, .string x.2.1.s] 24 (0, 0)) ∧ a' = { tmps := #[.slice a ts.length c, undef, .pointer (some ⟨w.heap.size, 0, none⟩), .pointer (some ⟨w.heap.size + 1, 0, none⟩), undef, .pointer (some ⟨Bx, 0, none⟩), undef, undef, undef, undef, .slice a ts.length c, .func (.func 122) #[] #[.pointer (some ⟨w.heap.size + 1 + 1, 0, none⟩)], .int .i64 (x.1 : Int), x.2.1.agg, undef, undef, undef, undef, undef, undef, undef, undef, undef, undef, undef, undef, undef, undef, undef, undef, undef, undef, undef, undef, undef, undef, undef, undef, undef, undef, undef, undef, undef, undef, undef, undef, undef, undef, undef, undef, undef, undef], defers := [] })
    (fun x a' _ X Y row hs hg hr => by
      obtain ⟨Bx, h2, h3⟩ := hs
      refine ⟨Bx, (hg.block Bx (Array.getElem?_eq_some_iff.1 h2).1 (fun e => ?_)).trans h2, h3⟩
      obtain ⟨o, ho, hc⟩ := (hr Bx e.symm).2
      rw [h2] at ho; cases ho; cases hc)
    ?assign ?body ?done ?stop
  case assign =>
    rintro l pre ⟨i, t, ht⟩ W K hI hK
    unfold encIT Tm.agg
    dsimp only
    gi_wp2
    refine hK _ _ ((KeepsOthers.alloc _ _).from _) ⟨(Below.refl _ W).alloc hI.2.2.size _, fun v hv => hv.alloc _⟩ ?_ ⟨W.heap.size, World.alloc_heap_new W _, rfl⟩
    · obtain ⟨⟨⟨v, hv, hr, _⟩, ho⟩, hp, hb⟩ := hI
      exact ⟨⟨⟨v, hv.alloc _, hr.alloc _, trivial⟩, ho.alloc _⟩, hp, hb.alloc hb.size _⟩
  case body =>
    rintro l pre ⟨i, t, ht⟩ a' W hl ⟨r, hr⟩ ⟨⟨⟨v, hv, hrow, _⟩, hO⟩, hpn, hB⟩ ⟨Bx, hX, rfl⟩ hlt
    obtain ⟨p, hp⟩ := Option.ne_none_iff_exists'.1 hpn
    rw [hp] at hrow
    simp only [Option.getD_some] at hrow
    have hpb := Pl.pile_bounds _ _ hp
    have hpl : p.length ≤ 1000 := by have h := hpb.1; simp [termsOf] at h; omega
    have hdb : ∀ d ∈ p, d ≤ 1000 := fun d hd => by have h := hpb.2 d hd; simp [termsOf] at h; omega
    have HDB := Lib.hid hdb
    clear hdb
    obtain ⟨i0, hi0, hz0, hz1, hz2⟩ := info_parts info3
    have hX0 := Lib.cell_of_heap hX 0
    have hX1 := Lib.cell_of_heap hX 1
    have hX2 := Lib.cell_of_heap hX 2
    simp at hX0 hX1 hX2
    have hPc := hv.cell
    have HPL := Lib.hid hp
    clear hp hpb hpn
    cases hf : Pl.formed t with
    | false =>
      have HF := Lib.hid hf
      gi_wp2_with (first
        | (refine ⟨trivial, ?_⟩; gi_at_call 49; refine (CallsIn.inRound l (callsIn_wide.2 (operands_any _ _))).mono ?_; rintro e w' ⟨rfl, rfl⟩)
        | (refine ⟨trivial, ?_⟩; gi_at_call 76; refine (CallsIn.inRound l (callsIn_wide.2 (isFormed_any t false _ (by omega) HF.symm))).mono ?_; rintro e w1 ⟨rfl, hb1⟩; have hP1 := (hb1.cell (p := ⟨w.heap.size, 0, none⟩) hv.lt).trans hPc; have hPf1 := (hb1.frozen (p := ⟨w.heap.size, 0, none⟩) hv.lt).trans hv.frozen; have hO1 := (hb1.frozen (p := ⟨w.heap.size + 1, 0, none⟩) hO.lt).trans hO.frozen; have hO2 := (hb1.cell (p := ⟨w.heap.size + 1, 0, none⟩) hO.lt).trans hO.cell))
      have hN : Pl.pile (termsOf (pre ++ [(i, ⟨t, ht⟩)])) = none := by rw [termsOf_snoc]; simp [Pl.pile, HPL.out, HF.out]
      obtain ⟨r1, r2⟩ := depths_ret (B0 := W0.heap.size) hv hO (by omega) hB hb1 (Nat.le_refl _) (by omega) hN
      exact ⟨r1, r2⟩
    | true =>
      have HF := Lib.hid hf
      rcases Nat.lt_or_ge p.length (Pl.operandsOf t.k).toNat with hsh | hsh
      · have hN : Pl.pile (termsOf (pre ++ [(i, ⟨t, ht⟩)])) = none := by
          rw [termsOf_snoc]
          simp [Pl.pile, HPL.out, HF.out]; omega
        have HN := Lib.hid hN
        clear hN
        have hsh' : (p.length : Int) < Pl.operandsOf t.k := by omega
        obtain ⟨a1, cap1, hva⟩ : ∃ a1 cap1, v = .slice a1 p.length cap1 := by
          rcases owns_shape hrow with ⟨h1, h2⟩ | ⟨g, cap, h, _⟩
          · exact ⟨none, 0, by rw [h1, h2]⟩
          · exact ⟨_, _, h⟩
        rw [hva] at hPc
        gi_wp2_with (first
          | (refine ⟨trivial, ?_⟩; gi_at_call 49; refine (CallsIn.inRound l (callsIn_wide.2 (operands_any _ _))).mono ?_; rintro e w' ⟨rfl, rfl⟩)
          | (refine ⟨trivial, ?_⟩; gi_at_call 76; refine (CallsIn.inRound l (callsIn_wide.2 (isFormed_any t true _ (by omega) HF.symm))).mono ?_; rintro e w1 ⟨rfl, hb1⟩; have hP1 := (hb1.cell (p := ⟨w.heap.size, 0, none⟩) hv.lt).trans hPc; have hPf1 := (hb1.frozen (p := ⟨w.heap.size, 0, none⟩) hv.lt).trans hv.frozen; have hO1 := (hb1.frozen (p := ⟨w.heap.size + 1, 0, none⟩) hO.lt).trans hO.frozen; have hO2 := (hb1.cell (p := ⟨w.heap.size + 1, 0, none⟩) hO.lt).trans hO.cell))
        obtain ⟨r1, r2⟩ := depths_ret (B0 := W0.heap.size) hv hO (by omega) hB hb1 (Nat.le_refl _) (by omega) HN.out
        exact ⟨r1, r2⟩
      · have hops := Pl.operandsOf_cases t.k (Pl.formed_operands t hf)
        rcases hops with e0 | e0 | e0 | e0
        · have hN : Pl.pile (termsOf (pre ++ [(i, ⟨t, ht⟩)])) = some (1 :: p) := by
            rw [termsOf_snoc]
            simp [Pl.pile, HPL.out, HF.out, e0]
          have HN := Lib.hid hN
          clear hN hf hsh
          rcases owns_shape hrow with ⟨h1, h2⟩ | ⟨g, cap, h, hc1, hc2, hg, hcells⟩
          · subst h1
            obtain rfl : p = [] := by simpa using h2
            have hrow' := hrow
            clear h2
            gi_wp2_with (first
              | (refine ⟨trivial, ?_⟩; gi_at_call 49; refine (CallsIn.inRound l (callsIn_wide.2 (operands_any _ _))).mono ?_; rintro e w' ⟨rfl, rfl⟩)
              | (refine ⟨trivial, ?_⟩; gi_at_call 76; refine (CallsIn.inRound l (callsIn_wide.2 (isFormed_any t true _ (by omega) HF.symm))).mono ?_; rintro e w1 ⟨rfl, hb1⟩; have hP1 := (hb1.cell (p := ⟨w.heap.size, 0, none⟩) hv.lt).trans hPc; have hPf1 := (hb1.frozen (p := ⟨w.heap.size, 0, none⟩) hv.lt).trans hv.frozen; have hrow1 := ownsRow_below hrow' hb1; have hs1 := Nat.le_trans hB.size hb1.size))
            refine wpIn_loop_rounds 1 ?_
            rw [roundsIn_succ]
            gi_wp2_with (gi_at_builtin; go_loud (refine wpListIn_append_own _ rfl _ _ 46 rfl w.heap.size 3 i0 (.int .i64 0) 1 8 Tryz.underlying46 hi0 hz0 hz1 hz2 rfl (by decide) _ _ _ rfl (hrow1.alloc _) ⟨w1.heap.size, 0, none⟩ 1 1 [.int .i64 1] rfl rfl (cell_one_new _ _ _) (by simp [Value.oneCell']) (by unfold maxLen; omega) (by omega) (by simp; omega) ?_); intro v' w2 hown' hgrow _; obtain ⟨g', cap', rfl⟩ := ownsRow_succ hown'; have hgr : World.grownBy (w1.alloc _) w2 none := hgrow; have hq := ((boxed_below hv hb1).alloc _).kept hgr ((boxed_below hv hb1).not_row (by decide) (ownsRow_below hrow hb1)); have hq1 := hq.cell; have hq2 := hq.frozen)
            have hres := depths_on (B0 := W0.heap.size) (Bs := w.heap.size + 1 + 1) (q := []) (d := 1) hv hO (by omega) (by omega) hB hb1 (Nat.le_refl _) hrow (by rw [pileV_cons]; exact hown') rfl hgr
            refine ⟨hres.1, hres.2.1, ?_⟩
            simp only [HN.out, Option.getD_some]
            exact ⟨hres.2.2.1, by simp, hres.2.2.2⟩
          · subst h
            have hrow' := hrow
            clear hcells
            rcases Nat.eq_or_lt_of_le hc1 with hce | hce
            · subst hce
              gi_wp2_with (first
                | (refine ⟨trivial, ?_⟩; gi_at_call 49; refine (CallsIn.inRound l (callsIn_wide.2 (operands_any _ _))).mono ?_; rintro e w' ⟨rfl, rfl⟩)
                | (refine ⟨trivial, ?_⟩; gi_at_call 76; refine (CallsIn.inRound l (callsIn_wide.2 (isFormed_any t true _ (by omega) HF.symm))).mono ?_; rintro e w1 ⟨rfl, hb1⟩; have hP1 := (hb1.cell (p := ⟨w.heap.size, 0, none⟩) hv.lt).trans hPc; have hPf1 := (hb1.frozen (p := ⟨w.heap.size, 0, none⟩) hv.lt).trans hv.frozen; have hrow1 := ownsRow_below hrow' hb1; have hs1 := Nat.le_trans hB.size hb1.size))
              refine wpIn_loop_rounds 1 ?_
              rw [roundsIn_succ]
              gi_wp2_with (gi_at_builtin; go_loud (refine wpListIn_append_own _ rfl _ _ 46 rfl w.heap.size 3 i0 (.int .i64 0) 1 8 Tryz.underlying46 hi0 hz0 hz1 hz2 rfl (by decide) _ _ _ rfl (hrow1.alloc _) ⟨w1.heap.size, 0, none⟩ 1 1 [.int .i64 1] rfl rfl (cell_one_new _ _ _) (by simp [Value.oneCell']) (by unfold maxLen; omega) (by omega) (by simp; omega) ?_); intro v' w2 hown' hgrow _; obtain ⟨g', cap', rfl⟩ := ownsRow_succ hown'; have hgr : World.grownBy (w1.alloc _) w2 (some g) := hgrow; have hq := ((boxed_below hv hb1).alloc _).kept hgr ((boxed_below hv hb1).not_row (by decide) (ownsRow_below hrow hb1)); have hq1 := hq.cell; have hq2 := hq.frozen)
              have hres := depths_on (B0 := W0.heap.size) (Bs := w.heap.size + 1 + 1) (q := p) (d := 1) hv hO (by omega) (by omega) hB hb1 (Nat.le_refl _) hrow (by rw [pileV_cons]; exact hown') rfl hgr
              refine ⟨hres.1, hres.2.1, ?_⟩
              simp only [HN.out, Option.getD_some]
              exact ⟨hres.2.2.1, by simp, hres.2.2.2⟩
            · skip
              gi_wp2_with (first
                | (refine ⟨trivial, ?_⟩; gi_at_call 49; refine (CallsIn.inRound l (callsIn_wide.2 (operands_any _ _))).mono ?_; rintro e w' ⟨rfl, rfl⟩)
                | (refine ⟨trivial, ?_⟩; gi_at_call 76; refine (CallsIn.inRound l (callsIn_wide.2 (isFormed_any t true _ (by omega) HF.symm))).mono ?_; rintro e w1 ⟨rfl, hb1⟩; have hP1 := (hb1.cell (p := ⟨w.heap.size, 0, none⟩) hv.lt).trans hPc; have hPf1 := (hb1.frozen (p := ⟨w.heap.size, 0, none⟩) hv.lt).trans hv.frozen; have hrow1 := ownsRow_below hrow' hb1; have hs1 := Nat.le_trans hB.size hb1.size))
              refine wpIn_loop_rounds 1 ?_
              rw [roundsIn_succ]
              gi_wp2_with (gi_at_builtin; go_loud (refine wpListIn_append_own _ rfl _ _ 46 rfl w.heap.size 3 i0 (.int .i64 0) 1 8 Tryz.underlying46 hi0 hz0 hz1 hz2 rfl (by decide) _ _ _ rfl (hrow1.alloc _) ⟨w1.heap.size, 0, none⟩ 1 1 [.int .i64 1] rfl rfl (cell_one_new _ _ _) (by simp [Value.oneCell']) (by unfold maxLen; omega) (by omega) (by simp; omega) ?_); intro v' w2 hown' hgrow _; obtain ⟨g', cap', rfl⟩ := ownsRow_succ hown'; have hgr : World.grownBy (w1.alloc _) w2 (some g) := hgrow; have hq := ((boxed_below hv hb1).alloc _).kept hgr ((boxed_below hv hb1).not_row (by decide) (ownsRow_below hrow hb1)); have hq1 := hq.cell; have hq2 := hq.frozen)
              have hres := depths_on (B0 := W0.heap.size) (Bs := w.heap.size + 1 + 1) (q := p) (d := 1) hv hO (by omega) (by omega) hB hb1 (Nat.le_refl _) hrow (by rw [pileV_cons]; exact hown') rfl hgr
              refine ⟨hres.1, hres.2.1, ?_⟩
              simp only [HN.out, Option.getD_some]
              exact ⟨hres.2.2.1, by simp, hres.2.2.2⟩
        · obtain ⟨d0, q, rfl⟩ : ∃ d0 q, p = d0 :: q := by
            match p, hsh with
            | d0 :: q, _ => exact ⟨_, _, rfl⟩
            | [], hsh => simp [e0] at hsh
          have hN : Pl.pile (termsOf (pre ++ [(i, ⟨t, ht⟩)])) = some ((d0 + 1) :: q) := by
            rw [termsOf_snoc]
            simp [Pl.pile, HPL.out, HF.out, e0] <;> omega
          have HN := Lib.hid hN
          clear hN hf hsh
          have bd0 : d0 ≤ 1000 := HDB.out d0 (by simp)
          simp only [List.length_cons] at hrow hpl
          rcases owns_shape hrow with ⟨h1, h2⟩ | ⟨g, cap, h, hc1, hc2, hg, hcells⟩
          · omega
          · subst h
            have hrow' := owns_prefix (m := 1) (xs := pileV q) (ys := [.int .i64 (d0 : Int)]) (by rw [pileV_length]; simpa [pileV_cons] using hrow)
            rw [pileV_length] at hrow'
            have hx0 := hcells (q.length) (.int .i64 (d0 : Int)) (by simp [pileV])
            clear hcells
            gi_wp2_with (first
              | (refine ⟨trivial, ?_⟩; gi_at_call 49; refine (CallsIn.inRound l (callsIn_wide.2 (operands_any _ _))).mono ?_; rintro e w' ⟨rfl, rfl⟩)
              | (refine ⟨trivial, ?_⟩; gi_at_call 76; refine (CallsIn.inRound l (callsIn_wide.2 (isFormed_any t true _ (by omega) HF.symm))).mono ?_; rintro e w1 ⟨rfl, hb1⟩; have hP1 := (hb1.cell (p := ⟨w.heap.size, 0, none⟩) hv.lt).trans hPc; have hPf1 := (hb1.frozen (p := ⟨w.heap.size, 0, none⟩) hv.lt).trans hv.frozen; have hrow1 := ownsRow_below hrow' hb1; have hs1 := Nat.le_trans hB.size hb1.size; have hy0 := (hb1.cell (p := ⟨g, q.length, none⟩) hg).trans hx0))
            refine wpIn_loop_rounds 2 ?_
            rw [roundsIn_succ]
            gi_wp2
            rw [roundsIn_succ]
            gi_wp2_with (gi_at_builtin; go_loud (refine wpListIn_append_own _ rfl _ _ 46 rfl w.heap.size 3 i0 (.int .i64 0) 1 8 Tryz.underlying46 hi0 hz0 hz1 hz2 rfl (by decide) _ _ _ rfl (hrow1.alloc _) ⟨w1.heap.size, 0, none⟩ 1 1 [.int .i64 (↑d0 + 1)] rfl rfl (cell_one_new _ _ _) (by simp [Value.oneCell']) (by unfold maxLen; omega) (by omega) (by simp; omega) ?_); intro v' w2 hown' hgrow _; obtain ⟨g', cap', rfl⟩ := ownsRow_succ hown'; have hgr : World.grownBy (w1.alloc _) w2 (some g) := hgrow; have hq := ((boxed_below hv hb1).alloc _).kept hgr ((boxed_below hv hb1).not_row (by decide) (ownsRow_below hrow hb1)); have hq1 := hq.cell; have hq2 := hq.frozen)
            rw [show ((d0 : Int) + 1) = (((d0 + 1 : Nat)) : Int) from by omega] at hown'
            have hres := depths_on (B0 := W0.heap.size) (Bs := w.heap.size + 1 + 1) (q := q) (d := d0 + 1) hv hO (by omega) (by omega) hB hb1 (Nat.le_refl _) hrow (by rw [pileV_cons]; exact hown') rfl hgr
            refine ⟨hres.1, hres.2.1, ?_⟩
            simp only [HN.out, Option.getD_some]
            exact ⟨hres.2.2.1, by simp, hres.2.2.2⟩
        · obtain ⟨d0, d1, q, rfl⟩ : ∃ d0 d1 q, p = d0 :: d1 :: q := by
            match p, hsh with
            | d0 :: d1 :: q, _ => exact ⟨_, _, _, rfl⟩
            | [], hsh => simp [e0] at hsh
            | [_], hsh => simp [e0] at hsh
          have hN : Pl.pile (termsOf (pre ++ [(i, ⟨t, ht⟩)])) = some (((max d0 d1) + 1) :: q) := by
            rw [termsOf_snoc]
            simp [Pl.pile, HPL.out, HF.out, e0] <;> omega
          have HN := Lib.hid hN
          clear hN hf hsh
          have bd0 : d0 ≤ 1000 := HDB.out d0 (by simp)
          have bd1 : d1 ≤ 1000 := HDB.out d1 (by simp)
          simp only [List.length_cons] at hrow hpl
          rcases owns_shape hrow with ⟨h1, h2⟩ | ⟨g, cap, h, hc1, hc2, hg, hcells⟩
          · omega
          · subst h
            have hrow' := owns_prefix (m := 2) (xs := pileV q) (ys := [.int .i64 (d1 : Int), .int .i64 (d0 : Int)]) (by rw [pileV_length]; simpa [pileV_cons] using hrow)
            rw [pileV_length] at hrow'
            have hx0 := hcells (q.length) (.int .i64 (d1 : Int)) (by simp [pileV])
            have hx1 := hcells (q.length + 1) (.int .i64 (d0 : Int)) (by simp [pileV])
            clear hcells
            gi_wp2_with (first
              | (refine ⟨trivial, ?_⟩; gi_at_call 49; refine (CallsIn.inRound l (callsIn_wide.2 (operands_any _ _))).mono ?_; rintro e w' ⟨rfl, rfl⟩)
              | (refine ⟨trivial, ?_⟩; gi_at_call 76; refine (CallsIn.inRound l (callsIn_wide.2 (isFormed_any t true _ (by omega) HF.symm))).mono ?_; rintro e w1 ⟨rfl, hb1⟩; have hP1 := (hb1.cell (p := ⟨w.heap.size, 0, none⟩) hv.lt).trans hPc; have hPf1 := (hb1.frozen (p := ⟨w.heap.size, 0, none⟩) hv.lt).trans hv.frozen; have hrow1 := ownsRow_below hrow' hb1; have hs1 := Nat.le_trans hB.size hb1.size; have hy0 := (hb1.cell (p := ⟨g, q.length, none⟩) hg).trans hx0; have hy1 := (hb1.cell (p := ⟨g, q.length + 1, none⟩) hg).trans hx1))
            refine wpIn_loop_rounds 3 ?_
            rw [roundsIn_succ]
            gi_wp2
            rw [roundsIn_succ]
            gi_wp2
            rw [roundsIn_succ]
            gi_wp2_with (gi_at_builtin; go_loud (refine wpListIn_append_own _ rfl _ _ 46 rfl w.heap.size 3 i0 (.int .i64 0) 1 8 Tryz.underlying46 hi0 hz0 hz1 hz2 rfl (by decide) _ _ _ rfl (hrow1.alloc _) ⟨w1.heap.size, 0, none⟩ 1 1 [.int .i64 (max ↑d1 ↑d0 + 1)] rfl rfl (cell_one_new _ _ _) (by simp [Value.oneCell']) (by unfold maxLen; omega) (by omega) (by simp; omega) ?_); intro v' w2 hown' hgrow _; obtain ⟨g', cap', rfl⟩ := ownsRow_succ hown'; have hgr : World.grownBy (w1.alloc _) w2 (some g) := hgrow; have hq := ((boxed_below hv hb1).alloc _).kept hgr ((boxed_below hv hb1).not_row (by decide) (ownsRow_below hrow hb1)); have hq1 := hq.cell; have hq2 := hq.frozen)
            rw [show (max (d1 : Int) (d0 : Int) + 1) = ((((max d0 d1) + 1 : Nat)) : Int) from by omega] at hown'
            have hres := depths_on (B0 := W0.heap.size) (Bs := w.heap.size + 1 + 1) (q := q) (d := (max d0 d1) + 1) hv hO (by omega) (by omega) hB hb1 (Nat.le_refl _) hrow (by rw [pileV_cons]; exact hown') rfl hgr
            refine ⟨hres.1, hres.2.1, ?_⟩
            simp only [HN.out, Option.getD_some]
            exact ⟨hres.2.2.1, by simp, hres.2.2.2⟩
        · obtain ⟨d0, d1, d2, q, rfl⟩ : ∃ d0 d1 d2 q, p = d0 :: d1 :: d2 :: q := by
            match p, hsh with
            | d0 :: d1 :: d2 :: q, _ => exact ⟨_, _, _, _, rfl⟩
            | [], hsh => simp [e0] at hsh
            | [_], hsh => simp [e0] at hsh
            | [_, _], hsh => simp [e0] at hsh
          have hN : Pl.pile (termsOf (pre ++ [(i, ⟨t, ht⟩)])) = some (((max d0 (max d1 d2)) + 1) :: q) := by
            rw [termsOf_snoc]
            simp [Pl.pile, HPL.out, HF.out, e0] <;> omega
          have HN := Lib.hid hN
          clear hN hf hsh
          have bd0 : d0 ≤ 1000 := HDB.out d0 (by simp)
          have bd1 : d1 ≤ 1000 := HDB.out d1 (by simp)
          have bd2 : d2 ≤ 1000 := HDB.out d2 (by simp)
          simp only [List.length_cons] at hrow hpl
          rcases owns_shape hrow with ⟨h1, h2⟩ | ⟨g, cap, h, hc1, hc2, hg, hcells⟩
          · omega
          · subst h
            have hrow' := owns_prefix (m := 3) (xs := pileV q) (ys := [.int .i64 (d2 : Int), .int .i64 (d1 : Int), .int .i64 (d0 : Int)]) (by rw [pileV_length]; simpa [pileV_cons] using hrow)
            rw [pileV_length] at hrow'
            have hx0 := hcells (q.length) (.int .i64 (d2 : Int)) (by simp [pileV])
            have hx1 := hcells (q.length + 1) (.int .i64 (d1 : Int)) (by simp [pileV])
            have hx2 := hcells (q.length + 2) (.int .i64 (d0 : Int)) (by simp [pileV])
            clear hcells
            gi_wp2_with (first
              | (refine ⟨trivial, ?_⟩; gi_at_call 49; refine (CallsIn.inRound l (callsIn_wide.2 (operands_any _ _))).mono ?_; rintro e w' ⟨rfl, rfl⟩)
              | (refine ⟨trivial, ?_⟩; gi_at_call 76; refine (CallsIn.inRound l (callsIn_wide.2 (isFormed_any t true _ (by omega) HF.symm))).mono ?_; rintro e w1 ⟨rfl, hb1⟩; have hP1 := (hb1.cell (p := ⟨w.heap.size, 0, none⟩) hv.lt).trans hPc; have hPf1 := (hb1.frozen (p := ⟨w.heap.size, 0, none⟩) hv.lt).trans hv.frozen; have hrow1 := ownsRow_below hrow' hb1; have hs1 := Nat.le_trans hB.size hb1.size; have hy0 := (hb1.cell (p := ⟨g, q.length, none⟩) hg).trans hx0; have hy1 := (hb1.cell (p := ⟨g, q.length + 1, none⟩) hg).trans hx1; have hy2 := (hb1.cell (p := ⟨g, q.length + 2, none⟩) hg).trans hx2))
            refine wpIn_loop_rounds 4 ?_
            rw [roundsIn_succ]
            gi_wp2
            rw [roundsIn_succ]
            gi_wp2
            rw [roundsIn_succ]
            gi_wp2
            rw [roundsIn_succ]
            gi_wp2_with (gi_at_builtin; go_loud (refine wpListIn_append_own _ rfl _ _ 46 rfl w.heap.size 3 i0 (.int .i64 0) 1 8 Tryz.underlying46 hi0 hz0 hz1 hz2 rfl (by decide) _ _ _ rfl (hrow1.alloc _) ⟨w1.heap.size, 0, none⟩ 1 1 [.int .i64 (max ↑d2 (max ↑d1 ↑d0) + 1)] rfl rfl (cell_one_new _ _ _) (by simp [Value.oneCell']) (by unfold maxLen; omega) (by omega) (by simp; omega) ?_); intro v' w2 hown' hgrow _; obtain ⟨g', cap', rfl⟩ := ownsRow_succ hown'; have hgr : World.grownBy (w1.alloc _) w2 (some g) := hgrow; have hq := ((boxed_below hv hb1).alloc _).kept hgr ((boxed_below hv hb1).not_row (by decide) (ownsRow_below hrow hb1)); have hq1 := hq.cell; have hq2 := hq.frozen)
            rw [show (max (d2 : Int) (max (d1 : Int) (d0 : Int)) + 1) = ((((max d0 (max d1 d2)) + 1 : Nat)) : Int) from by omega] at hown'
            have hres := depths_on (B0 := W0.heap.size) (Bs := w.heap.size + 1 + 1) (q := q) (d := (max d0 (max d1 d2)) + 1) hv hO (by omega) (by omega) hB hb1 (Nat.le_refl _) hrow (by rw [pileV_cons]; exact hown') rfl hgr
            refine ⟨hres.1, hres.2.1, ?_⟩
            simp only [HN.out, Option.getD_some]
            exact ⟨hres.2.2.1, by simp, hres.2.2.2⟩
  case done =>
    rintro D ys W hD hS ⟨⟨⟨v, hv, hrow, _⟩, hO⟩, hpn, hB⟩ hK
    rw [hS] at hrow hpn
    obtain ⟨p, hp⟩ := Option.ne_none_iff_exists'.1 hpn
    rw [hp] at hrow
    simp only [Option.getD_some] at hrow
    obtain ⟨a1, n1, cap1, hva⟩ : ∃ a1 n1 cap1, v = .slice a1 n1 cap1 := by
      rcases owns_shape hrow with ⟨h1, _⟩ | ⟨g, cap, h, _⟩
      · exact ⟨none, 0, 0, h1⟩
      · exact ⟨_, _, _, h⟩
    subst hva
    have hPc := hv.cell
    have hPf := hv.frozen
    have hOc := hO.cell
    have hOf := hO.frozen
    have HP := Lib.hid hp
    clear hp hpn
    gi_wp2
    refine ⟨by simp, .inl ⟨_, _, rfl, run_takeDeferred ((KeepsOthers.setCell _ _ _).same D _ ((KeepsOthers.setCell _ _ _).same D _ hK rfl) rfl), ?_⟩⟩
    have hne : w.heap.size ≠ w.heap.size + 1 := by omega
    have hK2 := (KeepsOthers.setCell (W.setCell ⟨w.heap.size, 0, none⟩ (.slice a1 n1 cap1)) ⟨w.heap.size + 1, 0, none⟩ (.bool true)).same D _ ((KeepsOthers.setCell W ⟨w.heap.size, 0, none⟩ (.slice a1 n1 cap1)).same D _ hK rfl) rfl
    have g1 := boxed_put ((hv.set (.slice a1 n1 cap1)).other hne (.bool true)) hK2 rfl (.deferred none)
    have g2 := boxed_put ((hO.other hne.symm (.slice a1 n1 cap1)).set (.bool true)) hK2 rfl (.deferred none)
    have g3 := g1.cell
    have g4 := g2.cell
    have g5 : World.ownsRow ((W.setCell ⟨w.heap.size, 0, none⟩ (.slice a1 n1 cap1)).setCell ⟨w.heap.size + 1, 0, none⟩ (.bool true)) w.heap.size 3 1 (.slice a1 n1 cap1) p.length (pileV p) := by
      have k1 := hrow.kept (grownBy_setCell' W w.heap.size (.slice a1 n1 cap1)) (.inr (hv.not_row (by decide) hrow).symm)
      exact k1.kept (grownBy_setCell' _ (w.heap.size + 1) (.bool true)) (.inr ((hO.other hne.symm (.slice a1 n1 cap1)).not_row (by decide) k1).symm)
    have g6 := ownsRow_putObj g5 (.deferred none) hK2 rfl
    have g7 := ((hB.setCell (p := ⟨w.heap.size, 0, none⟩) (Nat.le_refl _) (.slice a1 n1 cap1)).setCell (p := ⟨w.heap.size + 1, 0, none⟩) (Nat.le_succ _) (.bool true)).trans (belowK_b (w := w) (Nat.le_refl _) _ D _ (.deferred none) (by omega) hK2 rfl rfl)
    refine ⟨.tuple #[.slice a1 n1 cap1, .bool true], by simp [results, Tryz.results53, go_sem, g3, g4], ?_⟩
    exact .inl ⟨_, p, HP.out, rfl, g6, g7⟩
  case stop =>
    rintro D c pre W hD hS ⟨⟨⟨rfl, hN⟩, hv, hO⟩, hB⟩ hK
    have hPc := hv.cell
    have hOc := hO.cell
    have HN := Lib.hid hN
    clear hN
    gi_wp2
    refine ⟨by simp, .inl ⟨_, _, rfl, run_takeDeferred hK, ?_⟩⟩
    have g3 := (boxed_put hv hK rfl (.deferred none)).cell
    have g4 := (boxed_put hO hK rfl (.deferred none)).cell
    have g7 := hB.trans (belowK_b (w := w) (Nat.le_refl _) _ D _ (.deferred none) (by omega) hK rfl rfl)
    refine ⟨.tuple #[.slice none 0 0, .bool false], by simp [results, Tryz.results53, go_sem, g3, g4], ?_⟩
    refine .inr ⟨?_, rfl, g7⟩
    obtain ⟨r, hr⟩ := hS
    rw [← hr]
    exact Pl.pile_none_append r _ HN.out

/-- formula.depths, outside of a fence. -/
theorem depths_any (v : Value) (ts : List Tm) (hlen : ts.length ≤ 1000) (w : World) (hT : TermsIn w v ts) :
    Calls Tryz.prog 53 #[v] w (DepthsPost ts w) := by
  obtain ⟨a, c, rfl, h⟩ := id hT
  exact (callsIn_wide (n := 6)).1 (depths_in 6 (Nat.le_refl _) a c ts hlen w hT)
end Go.Proofs.YtchoelgkcnnnkaaGreatDoor
namespace Go.Proofs.YtchoelgkcnnnkaaGreatDoor
open Go.RowKit

theorem pileV_one (d : Nat) : pileV [d] = [.int .i64 (d : Int)] := rfl

theorem pile12_some {ts : List Tm} {p : List Nat} (h : Pl.pile ts = some p) : Pl.pile12 ts = (decide ((p.length : Int) = 1) && decide (((p.getD 0 0 : Nat) : Int) ≤ 12)) := by
  unfold Pl.pile12; rw [h]
  match p with
  | [] => rfl
  | [d] => simp
  | a :: b :: c => simp; omega

/-- The slice that depths returns, with its first element. -/
theorem row_head {W : World} {base : Nat} {v : Value} {p : List Nat} (h : W.ownsRow base 3 1 v p.length (pileV p)) :
    ∃ a c, v = .slice a p.length c ∧ ((p.length : Int) = 1 → ∃ g, a = some ⟨g, 0, none⟩ ∧ (W.cell? ⟨g, 0, none⟩ = some (.int .i64 ((p.getD 0 0 : Nat) : Int)))) := by
  rcases owns_shape h with ⟨h1, h2⟩ | ⟨g, cap, h1, h2⟩
  · exact ⟨none, 0, by rw [h1, h2], by rw [h2]; simp⟩
  · obtain ⟨_, _, _, hx⟩ := h2
    refine ⟨_, cap, h1, fun hp => ⟨g, rfl, hx 0 _ ?_⟩⟩
    match p, hp with
    | [d], _ => rfl

set_option maxRecDepth 100000 in
set_option maxHeartbeats 1000000 in
/-- formula.Valid, at every slice of terms. -/
theorem valid_any (v : Value) (ts : List Tm) (r : Bool) (w : World) (hT : TermsIn w v ts) (hl : ts.length ≤ 9223372036854775807) (HR : Hid (r = Pl.validB ts)) :
    Calls Tryz.prog 20 #[v] w fun e w' => e = .returned (.bool r) ∧ Below w.heap.size w w' := by
  have hT' := hT
  obtain ⟨a, c, rfl, hc, _, _⟩ := hT'
  by_cases h60 : (60 : Int) < ts.length
  · go_enter Tryz.func20, Tryz.ntmps20
    go_wp2
    go_ret
    refine ⟨ret_bool ?_, Below.refl _ _⟩
    rw [HR.out]; simp [Pl.validB]; omega
  · have hd := depths_any _ ts (by omega) w hT
    have HD := Lib.hid hd
    clear hd
    have hw : Pl.validB ts = Pl.pile12 ts := by
      rw [Pl.pile12_eq]; unfold Pl.validB; simp; omega
    rw [hw] at HR
    go_enter Tryz.func20, Tryz.ntmps20
    go_wp2_with fail
    refine HD.out.mono ?_
    rintro e w1 (⟨v, p, hp, rfl, hown, hb⟩ | ⟨hp, rfl, hb⟩)
    · have H1 := Lib.hid (pile12_some hp)
      clear hp
      obtain ⟨a1, c1, rfl, hh⟩ := row_head hown
      have Hb := Lib.hid hb
      clear hb hown
      by_cases h1 : (p.length : Int) = 1
      · obtain ⟨g, rfl, hcell⟩ := hh h1
        have h1' : ((p.length : Int) == 1) = true := by simp [h1]
        go_wp2
        go_ret
        refine ⟨ret_bool ?_, Hb.out⟩
        rw [HR.out, H1.out]; simp [h1]
      · have h1' : ((p.length : Int) == 1) = false := by simp [h1]
        go_wp2
        go_ret
        refine ⟨ret_bool ?_, Hb.out⟩
        rw [HR.out, H1.out]; simp [h1]
    · have H1 := Lib.hid hp
      have Hb := Lib.hid hb
      clear hp hb
      go_wp2
      go_ret
      refine ⟨ret_bool ?_, Hb.out⟩
      rw [HR.out]; simp [Pl.pile12, H1.out]
end Go.Proofs.YtchoelgkcnnnkaaGreatDoor
namespace Go.Proofs.YtchoelgkcnnnkaaGreatDoor
open Go.RowKit

namespace Pl
def nameStep (acc : List ByteArray) (t : Tm) : List ByteArray := if t.k = 4 ∧ Lib.containsS acc t.s = false then acc ++ [t.s] else acc
/-- The names of a formula, in the order in which they first come. -/
def namesOf (ts : List Tm) : List ByteArray := ts.foldl nameStep []
theorem namesOf_succ {ts : List Tm} {k : Nat} {t : Tm} (h : ts[k]? = some t) : namesOf (ts.take (k + 1)) = nameStep (namesOf (ts.take k)) t := by
  unfold namesOf
  have : ts.take (k + 1) = ts.take k ++ [t] := by rw [List.take_add_one, h]; rfl
  rw [this, List.foldl_append]; rfl
theorem nameStep_len (acc : List ByteArray) (t : Tm) : (nameStep acc t).length ≤ acc.length + 1 := by
  unfold nameStep; split <;> simp
theorem foldl_len (ts : List Tm) : ∀ acc, (ts.foldl nameStep acc).length ≤ acc.length + ts.length := by
  induction ts with
  | nil => intro acc; simp
  | cons t r ih => intro acc; have := ih (nameStep acc t); have := nameStep_len acc t; simp only [List.foldl_cons, List.length_cons]; omega
theorem namesOf_len (ts : List Tm) : (namesOf ts).length ≤ ts.length := by have := foldl_len ts []; simpa [namesOf] using this
end Pl

/-- The shape of a slice that owns a row of one-celled values. -/
theorem owns_shape1 {W : World} {B : Nat} {e : TypeId} {v : Value} {n : Nat} {xs : List Value} (h : W.ownsRow B e 1 v n xs) :
    (v = .slice none 0 0 ∧ n = 0) ∨ ∃ g cap, v = .slice (some ⟨g, 0, none⟩) n cap ∧ n ≤ cap ∧ cap ≤ maxLen ∧ B ≤ g ∧ g < W.heap.size ∧ ∀ j x, xs[j]? = some x → W.cell? ⟨g, j, none⟩ = some x := by
  obtain ⟨h0, h2⟩ := h
  rcases h2 with h2 | ⟨g, cap, cur, hv, hg, hh, hn, hcap, hsz, htake⟩
  · exact .inl h2
  · refine .inr ⟨g, cap, hv, hn, hcap, hg, (Array.getElem?_eq_some_iff.1 hh).1, fun j x hx => ?_⟩
    simp only [World.cell?, hh]
    simp only [Nat.mul_one] at htake
    rw [← htake] at hx
    have hj : j < n := by
      have := (List.getElem?_eq_some_iff.1 hx).1
      simp at this; omega
    rw [List.getElem?_take_of_lt hj] at hx
    simpa using hx

/-- A slice that owns strings. -/
def StrsAt (w : World) (B : Nat) (v : Value) (ns : List ByteArray) : Prop := w.ownsRow B 9 1 v ns.length (ns.map Value.string)
theorem StrsAt.below {W w1 : World} {B : Nat} {v : Value} {ns : List ByteArray} (h : StrsAt W B v ns) (hb : Below W.heap.size W w1) : StrsAt w1 B v ns :=
  h.kept (row := none) ⟨hb.os, hb.tape, hb.output, hb.size, fun j hj _ => hb.block j hj⟩ (by cases hv : v.ownBlock <;> simp)

theorem contains_strs (v : Value) (ns : List ByteArray) (x : ByteArray) (B : Nat) (w : World) (h : StrsAt w B v ns) (hl : ns.length ≤ 9223372036854775807) :
    Calls Tryz.prog 46 #[v, .string x] w fun e w' => e = .returned (.bool (Lib.containsS ns x)) ∧ w' = w := by
  rcases owns_shape1 h with ⟨rfl, h0⟩ | ⟨g, cap, rfl, hn, hcap, hB, hg, hc⟩
  · obtain rfl : ns = [] := by simpa using h0
    exact Tryz.slices_Contains_string_empty none 0 x w
  · refine (Tryz.slices_Contains_string g 0 ns.length cap ns x w (Nat.le_refl _) hl (fun j hj => ?_)).mono ?_
    · rw [Nat.zero_add]
      exact hc j _ (by simp [hj])
    · rintro e w' ⟨rfl, rfl⟩
      rw [List.take_length]; exact ⟨rfl, rfl⟩

theorem info9 : (Tryz.prog.info? 9).map (fun i => (i.zero, i.size, i.bytes)) = some (some (.string ByteArray.empty), 1, 16) := by kernel_rfl

set_option maxRecDepth 100000 in
set_option maxHeartbeats 1000000 in
theorem names_bad (v : Value) (ts : List Tm) (w : World) (hT : TermsIn w v ts) (hl : ts.length ≤ 9223372036854775807) (HV : Hid (false = Pl.validB ts)) :
    Calls Tryz.prog 15 #[v] w fun e w' => e = .returned (.tuple #[.slice none 0 0, .int .i64 150]) ∧ Below w.heap.size w w' := by
  have hT' := hT
  obtain ⟨a, c, rfl, hc, _, _⟩ := hT'
  go_enter Tryz.func15, Tryz.ntmps15
  go_wp2_with (go_at_call 20; go_loud (refine (valid_any _ ts false _ hT hl HV).mono ?_); rintro e w' ⟨rfl, hb⟩; obtain ⟨hc, hf⟩ := bcell hb)
  go_ret2
  exact ⟨rfl, hb⟩

set_option maxRecDepth 100000 in
set_option maxHeartbeats 2000000 in
theorem names_ok (ts : List Tm) (d off c : Nat) (w : World) (hc : ts.length ≤ c) (hrow : RowIn w d off ts) (hl : ts.length ≤ 60) (hn0 : ts ≠ []) (HV : Hid (true = Pl.validB ts)) :
    Calls Tryz.prog 15 #[.slice (some ⟨d, off, none⟩) ts.length c] w fun e w' => ∃ v, e = .returned (.tuple #[v, .int .i64 0]) ∧ StrsAt w' w.heap.size v (Pl.namesOf ts) ∧ Below w.heap.size w w' := by
  have hd0 := hrow.lt hn0
  have HR := Lib.hid hrow
  obtain ⟨i0, hi0, hz0, hz1, hz2⟩ := info_parts info9
  have hT : Hid (TermsIn w (.slice (some ⟨d, off, none⟩) ts.length c) ts) := Lib.hid ⟨_, _, rfl, hc, by rintro p ⟨⟩; rfl, fun _ => ⟨_, _, rfl, hrow⟩⟩
  clear hrow hn0
  go_enter Tryz.func15, Tryz.ntmps15
  go_wp2_with (go_at_call 20; go_loud (refine (valid_any _ ts true _ hT.out (by omega) HV).mono ?_); rintro e w0 ⟨rfl, hb⟩; have HB := Lib.hid hb; clear hb)
  go_loopw [2, 11] (fun v i wr => ∃ k : Nat, k ≤ ts.length ∧ i = .int .i64 k ∧ StrsAt wr w.heap.size v (Pl.namesOf (ts.take k)) ∧ Below w.heap.size w wr)
    (fun _ i _ => ts.length - (intOf i).toNat)
  case atStart => exact ⟨0, Nat.zero_le _, rfl, World.ownsRow_nil _ _ _ _, HB.out⟩
  case round =>
    obtain ⟨k, hk, rfl, hown, hbr⟩ := hrel
    have hsz := hbr.size
    by_cases hkl : k < ts.length
    · obtain ⟨t, ht⟩ : ∃ t, ts[k]? = some t := ⟨ts[k], by simp⟩
      obtain ⟨q1, q2, q3, q4⟩ := (HR.out.below hbr hd0) k t ht
      have hnl := Pl.namesOf_len (ts.take k)
      have hnl2 : (Pl.namesOf (ts.take k)).length ≤ 60 := by rw [List.length_take] at hnl; omega
      have HS := Lib.hid (Pl.namesOf_succ ht)
      obtain ⟨tk, tn, tss⟩ := t
      obtain ⟨ns, hns⟩ : ∃ ns, ns = Pl.namesOf (ts.take k) := ⟨_, rfl⟩
      rw [← hns] at hown hnl2 HS
      clear ht hnl hns
      by_cases h4 : tk = 4
      · subst h4
        obtain ⟨cs, HC⟩ : ∃ cs, Hid (cs = Lib.containsS ns tss) := ⟨_, Lib.hid rfl⟩
        cases cs with
        | true =>
          go_wp2_with (go_at_call 46; go_loud (refine (contains_strs _ ns tss w.heap.size _ (hown.below (below1 _ _)) (by omega)).mono ?_); rintro e w' ⟨he, rfl⟩; rw [← HC.out] at he; subst he)
          go_roundw
          case rel => exact ⟨k + 1, by omega, by go_num, by rw [HS.out]; simp only [Pl.nameStep, ← HC.out]; simpa using hown.below (below1 _ _), hbr.trans ((below1 _ _).mono (by omega))⟩
          case measure => simp [intOf]; omega
        | false =>
          go_wp2_with (first
            | (go_at_call 46; go_loud (refine (contains_strs _ ns tss w.heap.size _ (hown.below (below1 _ _)) (by omega)).mono ?_); rintro e w' ⟨he, rfl⟩; rw [← HC.out] at he; subst he)
            | (at_builtin; go_loud (refine wpList_append_own _ rfl _ _ 33 rfl w.heap.size 9 i0 (.string ByteArray.empty) 1 16 Tryz.underlying33 hi0 hz0 hz1 hz2 rfl (by decide) _ _ _ rfl ((hown.below (below1 _ _)).alloc _) ⟨wr.heap.size + 1, 0, none⟩ 1 1 [.string tss] rfl rfl ?c1 ?c2 ?c3 ?c4 ?c5 ?_)))
          case c1 =>
            intro j u hj
            match j, hj with
            | 0, hj => simp at hj; subst hj; simp [Addr.add]
          case c2 => intro u hu; simp at hu; subst hu; rfl
          case c3 => unfold maxLen; omega
          case c4 => omega
          case c5 => simp; omega
          intro v' w1 hown' hgrow _
          have hgr := Lib.hid hgrow
          have hlt := fun k hk => (World.ownsRow.lt hown k hk).1
          clear hgrow
          go_wp2
          go_roundw
          case rel => exact ⟨k + 1, by omega, by go_num, by rw [HS.out]; simp only [Pl.nameStep, ← HC.out]; simpa [StrsAt] using hown', ((hbr.alloc hsz _).alloc (by simp; omega) _).grown hgr.out (by simp; omega) hlt⟩
          case measure => simp [intOf]; omega
      · go_wp2
        go_roundw
        case rel => exact ⟨k + 1, by omega, by go_num, by rw [HS.out]; simp only [Pl.nameStep]; rw [if_neg (by simp [h4])]; exact hown.below (below1 _ _), hbr.trans ((below1 _ _).mono (by omega))⟩
        case measure => simp [intOf]; omega
    · obtain rfl : k = ts.length := by omega
      rw [List.take_length] at hown
      go_wp2
      go_ret2
      exact ⟨_, rfl, hown, hbr⟩
end Go.Proofs.YtchoelgkcnnnkaaGreatDoor
