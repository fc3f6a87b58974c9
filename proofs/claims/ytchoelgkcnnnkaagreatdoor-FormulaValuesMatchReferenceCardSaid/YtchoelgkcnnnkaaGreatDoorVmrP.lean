/- A LAW ON REGIONS THAT DRAW THEIR ORDER: what each operation gives is shown once, from what stands behind the operations that it waits for; whatever the order, what stands at the end is the same, but for the numbers of new blocks. · THE SAME LAW AS RgA's, WHERE WHAT AN OPERATION GIVES MAY BE ANY VALUE (a slice of any address and capacity, as 'append' and calls give it): J says what it is. · WALK of the reference: In, at a list that is no formula. · CONTRACT: formula.Value and the reference's Value answer alike, whatever the formula and the values. · VALUES AND THE REFERENCE, plain parts: formula.Value and the reference's Value give the same answer, in its three parts; a slice of values that somebody owns, and that is read. -/
import Derived.OrdersHeld
import Derived.WalkKit
import Derived.Test.YtchoelgkcnnnkaaGreatDoorMem
import Derived.Deep.RegionLawGrows
import Derived.Test.YtchoelgkcnnnkaaGreatDoorInA
import Derived.Test.YtchoelgkcnnnkaaGreatDoorValK
import Derived.Test.YtchoelgkcnnnkaaGreatDoorTypA
set_option linter.all false
namespace Go.Proofs.YtchoelgkcnnnkaaGreatDoor
open Go Go.RowKit
def upd {α : Type} (f : Nat → α) (j : Nat) (v : α) : Nat → α := fun i => if i = j then v else f i
/-- What an operation gives: a value, or what a call hands back. -/
def Gives (P : Program) (o : Oper) (ρ : Operand → Value) (X : World) (Φ : Value → World → Prop) : Prop :=
  match (execOp ρ o).run P X with
  | .ok (.value u) X' => Φ u X'
  | .ok .skip X' => Φ undef X'
  | .ok (.enter f args) X' => Calls P f args X' fun e X'' => ∃ v, e = .returned v ∧ Φ v X''
  | _ => False
theorem Gives.wp {P : Program} {o : Oper} {a : Act} {X : World} {Φ : Value → World → Prop} {K : Act → World → Prop} {Q : Exit → Act → World → Prop} (h : Gives P o a.eval X Φ) (hk : ∀ v X', Φ v X' → K (a.put o.dst v) X') : o.wp P a X K Q := by
  unfold Gives at h
  unfold Oper.wp
  generalize (execOp a.eval o).run P X = r at *
  cases r with
  | ok n X' =>
    cases n <;> simp only [] at h <;> simp only [Oper.upon]
    case value u => exact hk _ _ h
    case skip => exact hk _ _ h
    case enter f args => exact h.mono fun e w'' ⟨v, he, hv⟩ => by subst he; exact hk _ _ hv
  | halt x X' => cases x <;> exact absurd h id
theorem Gives.value {P : Program} {o : Oper} {ρ : Operand → Value} {X X' : World} {u : Value} {Φ : Value → World → Prop} (h : (execOp ρ o).run P X = .ok (.value u) X') (hp : Φ u X') : Gives P o ρ X Φ := by unfold Gives; rw [h]; exact hp
theorem Gives.skip {P : Program} {o : Oper} {ρ : Operand → Value} {X X' : World} {Φ : Value → World → Prop} (h : (execOp ρ o).run P X = .ok .skip X') (hp : Φ undef X') : Gives P o ρ X Φ := by unfold Gives; rw [h]; exact hp
theorem Gives.call {P : Program} {o : Oper} {ρ : Operand → Value} {X X' : World} {f : FuncId} {args : Array Value} {Φ : Value → World → Prop} (h : (execOp ρ o).run P X = .ok (.enter f args) X') (hp : Calls P f args X' fun e X'' => ∃ v, e = .returned v ∧ Φ v X'') : Gives P o ρ X Φ := by unfold Gives; rw [h]; exact hp
/-- The values of operands: 'tab' says which operation writes a slot, 'val' what it yields (by the number of the block that it has made). -/
def rho (tab : List (Nat × Nat)) (val : Nat → Nat → Value) (base : Nat → Value) (ds : Nat → Nat) : Operand → Value
  | .tmp t => match tab.lookup t with | some i => val i (ds i) | none => base t
  | .const v => v
  | .global g => .pointer (some ⟨g, 0, none⟩)
  | .func f => .func (.func f) #[] #[]
def opFits (tab : List (Nat × Nat)) (bs : List Nat) (j : Nat) (o : Oper) : Bool :=
  o.guard.isNone && (match o.dst with | some s => tab.lookup s == some j | none => true) && (o.after.all fun e => !Region.binds .any e || decide (e.on < j)) &&
  (o.op.operands.all fun x => match x with
    | .tmp t => (match tab.lookup t with | some i => o.after.any fun e => Region.binds .any e && e.on == i | none => bs.contains t)
    | _ => true)
def rgFits (tab : List (Nat × Nat)) (bs : List Nat) (n : Nat) (ops : Array Oper) : Bool :=
  Region.noSelect ops && ((List.range ops.size).all fun j => match ops[j]? with | some o => opFits tab bs j o | none => false) &&
  (tab.all fun p => decide (p.1 < n) && (match ops[p.2]? with | some o => o.dst == some p.1 | none => false))
theorem rho_const {tab : List (Nat × Nat)} {val : Nat → Nat → Value} {base : Nat → Value} {ds : Nat → Nat} {ρ : Operand → Value} (h : ρ = rho tab val base ds) : ∀ v, ρ (.const v) = v := fun v => by rw [h]; rfl
theorem rho_func {tab : List (Nat × Nat)} {val : Nat → Nat → Value} {base : Nat → Value} {ds : Nat → Nat} {ρ : Operand → Value} (h : ρ = rho tab val base ds) : ∀ f, ρ (.func f) = .func (.func f) #[] #[] := fun f => by rw [h]; rfl
/-- The frame with all that 'tab' says. -/
def putAll (a0 : Act) (val : Nat → Nat → Value) (ds : Nat → Nat) : List (Nat × Nat) → Act
  | [] => a0
  | (t, i) :: r => (putAll a0 val ds r).put (some t) (val i (ds i))
theorem put_size (a : Act) (d : Option Tmp) (v : Value) : (a.put d v).tmps.size = a.tmps.size := by
  cases d <;> simp [Act.put]
theorem putAll_size (a0 : Act) (val : Nat → Nat → Value) (ds : Nat → Nat) : ∀ tab, (putAll a0 val ds tab).tmps.size = a0.tmps.size
  | [] => rfl
  | (t, i) :: r => by rw [putAll, put_size]; exact putAll_size a0 val ds r
theorem putAll_defers (a0 : Act) (val : Nat → Nat → Value) (ds : Nat → Nat) : ∀ tab, (putAll a0 val ds tab).defers = a0.defers
  | [] => rfl
  | (t, i) :: r => by rw [putAll]; exact putAll_defers a0 val ds r
theorem putAll_at (a0 : Act) (val : Nat → Nat → Value) (ds : Nat → Nat) (t : Nat) (ht : t < a0.tmps.size) : ∀ tab, (putAll a0 val ds tab).tmps[t]? = some (match List.lookup t tab with | some i => val i (ds i) | none => a0.tmps.getD t undef)
  | [] => by simp [putAll, List.lookup, ht]
  | (s, i) :: r => by
    have ih := putAll_at a0 val ds t ht r
    have hs := putAll_size a0 val ds r
    rw [putAll]
    by_cases h : t = s
    · subst h
      simp [Act.put, List.lookup, hs, ht]
    · have h' : (t == s) = false := by simpa using h
      rw [List.lookup, h']
      simp only [Act.put]
      rw [Array.getElem?_setIfInBounds_ne (Ne.symm h)]
      exact ih
structure InvA (a0 : Act) (tab : List (Nat × Nat)) (val : Nat → Nat → Value) (l : Nat → Bool) (ds : Nat → Nat) (a : Act) : Prop where
  defers : a.defers = a0.defers
  size : a.tmps.size = a0.tmps.size
  get : ∀ t, t < a0.tmps.size → a.tmps[t]? = some (match List.lookup t tab with | some i => if l i = true then val i (ds i) else a0.tmps.getD t undef | none => a0.tmps.getD t undef)
theorem InvA.fin {a0 a : Act} {tab : List (Nat × Nat)} {val : Nat → Nat → Value} {l : Nat → Bool} {ds : Nat → Nat} (h : InvA a0 tab val l ds a) (hl : ∀ p ∈ tab, l p.2 = true) : a = putAll a0 val ds tab := by
  have e1 : a.tmps = (putAll a0 val ds tab).tmps := by
    refine Array.ext_getElem? fun t => ?_
    by_cases ht : t < a0.tmps.size
    · rw [h.get t ht, putAll_at a0 val ds t ht tab]
      cases hk : List.lookup t tab with
      | none => rfl
      | some i =>
        have : (t, i) ∈ tab := by
          clear h hl
          induction tab with
          | nil => simp [List.lookup] at hk
          | cons p r ih =>
            obtain ⟨s, k⟩ := p
            rw [List.lookup] at hk
            by_cases e : t = s
            · subst e; simp at hk; subst hk; simp
            · have h' : (t == s) = false := by simpa using e
              rw [h'] at hk
              exact List.mem_cons_of_mem _ (ih hk)
        simp only [hl _ this, if_true]
    · rw [Array.getElem?_eq_none (by rw [h.size]; omega), Array.getElem?_eq_none (by rw [putAll_size]; omega)]
  have e2 : a.defers = (putAll a0 val ds tab).defers := by rw [h.defers, putAll_defers]
  cases a
  cases hx : putAll a0 val ds tab
  rw [hx] at e1 e2
  simp only at e1 e2
  subst e1 e2
  rfl
theorem lookup_mem {t i : Nat} : ∀ {tab : List (Nat × Nat)}, List.lookup t tab = some i → (t, i) ∈ tab
  | [], h => by simp [List.lookup] at h
  | (s, k) :: r, h => by
    rw [List.lookup] at h
    by_cases e : t = s
    · subst e; simp at h; subst h; simp
    · have h' : (t == s) = false := by simpa using e
      rw [h'] at h
      exact List.mem_cons_of_mem _ (lookup_mem h)
def AllFrom (C : Nat → Oper → Prop) : Nat → List Oper → Prop
  | _, [] => True
  | k, o :: r => C k o ∧ AllFrom C (k + 1) r
theorem AllFrom.get {C : Nat → Oper → Prop} : ∀ {l : List Oper} {k : Nat}, AllFrom C k l → ∀ (i : Nat) (o : Oper), l[i]? = some o → C (k + i) o
  | [], _, _, i, o, h => by simp at h
  | x :: r, k, h, 0, o, ho => by simp at ho; subst ho; exact h.1
  | x :: r, k, h, i + 1, o, ho => by
    have := AllFrom.get h.2 i o (by simpa using ho)
    rwa [show k + 1 + i = k + (i + 1) by omega] at this
/-- What is shown of one operation. -/
def OpGives (P : Program) (tab : List (Nat × Nat)) (val : Nat → Nat → Value) (base : Nat → Value) (J : (Nat → Bool) → (Nat → Nat) → World → Prop) (j : Nat) (o : Oper) : Prop :=
  ∀ (l : Nat → Bool) (ds : Nat → Nat) (X : World) (ρ : Operand → Value), ρ = rho tab val base ds → l j = false → (∀ e ∈ o.after, Region.binds .any e = true → l e.on = true) → J l ds X →
    Gives P o ρ X fun v X' => ∃ d, (o.dst ≠ none → v = val j d) ∧ J (upd l j true) (upd ds j d) X'
theorem rg_step {P : Program} {ops : Array Oper} {tab : List (Nat × Nat)} {bs : List Nat} {n : Nat} {val : Nat → Nat → Value} {base : Nat → Value} {J : (Nat → Bool) → (Nat → Nat) → World → Prop} {a0 : Act}
    (hn : a0.tmps.size = n) (hfit : rgFits tab bs n ops = true) (hb : ∀ t ∈ bs, base t = a0.tmps.getD t undef) {j : Nat} {o : Oper} (ho : ops[j]? = some o) (hC : OpGives P tab val base J j o)
    {l : Nat → Bool} {ds : Nat → Nat} {a : Act} {X : World} (hl : l j = false) (he : ∀ e ∈ o.after, Region.binds .any e = true → l e.on = true) (hi : InvA a0 tab val l ds a) (hJ : J l ds X)
    {K : Act → World → Prop} {Q : Exit → Act → World → Prop} (hk : ∀ ds' a' X', InvA a0 tab val (upd l j true) ds' a' → J (upd l j true) ds' X' → K a' X') : o.wp P a X K Q := by
  simp only [rgFits, Bool.and_eq_true] at hfit
  obtain ⟨⟨hsel, hall⟩, htab⟩ := hfit
  have hjlt : j < ops.size := (Array.getElem?_eq_some_iff.1 ho).1
  have hof := List.all_eq_true.1 hall j (by simpa using hjlt)
  rw [ho] at hof
  simp only [opFits, Bool.and_eq_true] at hof
  obtain ⟨⟨⟨hg, hd⟩, _⟩, hop⟩ := hof
  have hrho : execOp a.eval o = execOp (rho tab val base ds) o := by
    refine execOp_congr o (fun cs b => Region.noSelect_spec hsel j o cs b ho) fun x hx => ?_
    have hxx := Array.all_eq_true_iff_forall_mem.1 hop x hx
    cases x with
    | tmp t =>
      simp only at hxx
      show a.tmps.getD t undef = (match tab.lookup t with | some i => val i (ds i) | none => base t)
      cases hk : tab.lookup t with
      | none =>
        rw [hk] at hxx
        simp only at hxx ⊢
        rw [hb t (by simpa using hxx)]
        by_cases ht : t < a0.tmps.size
        · have := hi.get t ht
          rw [hk] at this
          simp only at this
          rw [Array.getD_eq_getD_getElem?, this]; rfl
        · have x1 : a.tmps[t]? = none := Array.getElem?_eq_none (by rw [hi.size]; exact Nat.le_of_not_lt ht)
          have x2 : a0.tmps[t]? = none := Array.getElem?_eq_none (Nat.le_of_not_lt ht)
          rw [Array.getD_eq_getD_getElem?, Array.getD_eq_getD_getElem?, x1, x2]
      | some i =>
        rw [hk] at hxx
        simp only at hxx ⊢
        have hmem := lookup_mem hk
        have ht : t < a0.tmps.size := by
          have := List.all_eq_true.1 htab _ hmem
          simp only [Bool.and_eq_true, decide_eq_true_eq] at this
          rw [hn]; exact this.1
        have hli : l i = true := by
          rw [Array.any_eq_true'] at hxx
          obtain ⟨e, hem, hee⟩ := hxx
          simp only [Bool.and_eq_true, beq_iff_eq] at hee
          rw [← hee.2]; exact he e hem hee.1
        have := hi.get t ht
        rw [hk] at this
        simp only [hli, if_true] at this
        rw [Array.getD_eq_getD_getElem?, this]; rfl
    | const v => rfl
    | global g => rfl
    | func f => rfl
  have hgv := hC l ds X _ rfl hl he hJ
  have hgv' : Gives P o a.eval X fun v X' => ∃ d, (o.dst ≠ none → v = val j d) ∧ J (upd l j true) (upd ds j d) X' := by
    unfold Gives at hgv ⊢; rw [hrho]; exact hgv
  refine hgv'.wp fun v X' ⟨d, hv, hJ'⟩ => hk (upd ds j d) _ _ ?_ hJ'
  refine ⟨?_, ?_, fun t ht => ?_⟩
  · cases o.dst <;> exact hi.defers
  · rw [put_size]; exact hi.size
  · have hother : ∀ i, List.lookup t tab = some i → o.dst ≠ some t → i ≠ j := by
      intro i hkk hne hij
      have := List.all_eq_true.1 htab _ (lookup_mem hkk)
      rw [hij] at this
      rw [Bool.and_eq_true] at this
      have h2 := this.2
      rw [ho] at h2
      simp only [beq_iff_eq] at h2
      exact hne h2
    by_cases hdt : o.dst = some t
    · rw [hdt] at hd hv ⊢
      simp only [beq_iff_eq] at hd
      rw [hd]
      simp only [Act.put]
      rw [Array.getElem?_setIfInBounds_self]
      simp only [hi.size, ht, if_true, upd]
      rw [hv (by simp)]
    · have e1 : (a.put o.dst v).tmps[t]? = a.tmps[t]? := by
        cases hx : o.dst with
        | none => rfl
        | some s =>
          have hst : s ≠ t := fun e => hdt (by rw [hx, e])
          simp only [Act.put]
          exact Array.getElem?_setIfInBounds_ne hst
      rw [e1, hi.get t ht]
      cases hkk : List.lookup t tab with
      | none => rfl
      | some i =>
        have := hother i hkk hdt
        simp only [upd, if_neg this]
theorem count_set {L : Array Bool} {i : Nat} (h : L[i]? = some false) : (L.setIfInBounds i true).toList.count false + 1 = L.toList.count false := by
  have hi := (Array.getElem?_eq_some_iff.1 h).1
  have hv := (Array.getElem?_eq_some_iff.1 h).2
  have e : (L.setIfInBounds i true).toList = L.toList.set i true := by simp
  rw [e, List.count_set (by simpa using hi)]
  have hc : 0 < L.toList.count false := List.count_pos_iff.2 (by rw [← hv]; simp)
  have hv' : L.toList[i]'(by simpa using hi) = false := by simpa using hv
  rw [hv', if_pos (by decide), if_neg (by decide)]
  omega
theorem getD_of {L : Array Bool} {i : Nat} (h : i < L.size) (x : Bool) : L.getD i x = L[i] := by simp [Array.getD, h]
theorem rg_any {P : Program} {ops : Array Oper} {tab : List (Nat × Nat)} {bs : List Nat} {n : Nat} {val : Nat → Nat → Value} {base : Nat → Value} {J : (Nat → Bool) → (Nat → Nat) → World → Prop} {a0 : Act} {Q : Exit → Act → World → Prop}
    (hn : a0.tmps.size = n) (hfit : rgFits tab bs n ops = true) (hb : ∀ t ∈ bs, base t = a0.tmps.getD t undef) (hC : ∀ j o, ops[j]? = some o → OpGives P tab val base J j o)
    (hQ : ∀ l ds X, (∀ i, i < ops.size → l i = true) → J l ds X → Q .normal (putAll a0 val ds tab) X) :
    ∀ (fuel : Nat) (L : Array Bool) (ds : Nat → Nat) (a : Act) (X : World), L.size = ops.size → L.toList.count false ≤ fuel → InvA a0 tab val (fun i => L.getD i false) ds a → J (fun i => L.getD i false) ds X → wpAny P .any ops Q fuel L a X := by
  have hfit' := hfit
  simp only [rgFits, Bool.and_eq_true] at hfit'
  obtain ⟨⟨hsel, hall⟩, htab⟩ := hfit'
  have hopf : ∀ j o, ops[j]? = some o → opFits tab bs j o = true := fun j o ho => by
    have := List.all_eq_true.1 hall j (by simpa using (Array.getElem?_eq_some_iff.1 ho).1)
    rwa [ho] at this
  -- where nothing is ready, all have come up
  have hdone : ∀ L : Array Bool, L.size = ops.size → Region.ready .any ops L = [] → ∀ i, i < ops.size → L.getD i false = true := by
    intro L hs hr i
    induction i using Nat.strongRecOn with
    | _ i ih =>
      intro hi
      cases hx : L.getD i false with
      | true => rfl
      | false =>
        have hmem : i ∈ Region.ready .any ops L := by
          refine mem_ready.2 ⟨?_, ops[i], Array.getElem?_eq_getElem hi, fun e he hbe => ?_⟩
          · rw [getD_of (by omega)] at hx ⊢; exact hx
          · have := hopf i ops[i] (Array.getElem?_eq_getElem hi)
            simp only [opFits, Bool.and_eq_true] at this
            have h2 := Array.all_eq_true_iff_forall_mem.1 this.1.2 e he
            rw [hbe] at h2
            simp at h2
            exact ih _ h2 (by omega)
        rw [hr] at hmem
        cases hmem
  have hend : ∀ (L : Array Bool) (ds : Nat → Nat) (a : Act) (X : World), L.size = ops.size → Region.ready .any ops L = [] → InvA a0 tab val (fun i => L.getD i false) ds a → J (fun i => L.getD i false) ds X → Q .normal a X := by
    intro L ds a X hs hr hi hJ
    have hd := hdone L hs hr
    rw [hi.fin (fun p hp => by
      have := List.all_eq_true.1 htab _ hp
      rw [Bool.and_eq_true] at this
      have h2 := this.2
      cases hx : ops[p.2]? with
      | none => rw [hx] at h2; cases h2
      | some o => exact hd _ (Array.getElem?_eq_some_iff.1 hx).1)]
    exact hQ _ ds X hd hJ
  intro fuel
  induction fuel with
  | zero =>
    intro L ds a X hs hc hi hJ
    have hr : Region.ready .any ops L = [] := by
      cases hx : Region.ready .any ops L with
      | nil => rfl
      | cons i r =>
        have hm : i ∈ Region.ready .any ops L := by rw [hx]; simp
        obtain ⟨h1, o, ho, _⟩ := mem_ready.1 hm
        have hlt := (Array.getElem?_eq_some_iff.1 ho).1
        rw [getD_of (by omega)] at h1
        have : 0 < L.toList.count false := List.count_pos_iff.2 (by rw [← h1]; simp)
        omega
    exact ⟨hr, hend L ds a X hs hr hi hJ⟩
  | succ fuel ih =>
    intro L ds a X hs hc hi hJ
    refine ⟨fun hr => hend L ds a X hs hr hi hJ, fun j hj => ?_⟩
    obtain ⟨h1, o, ho, he⟩ := mem_ready.1 hj
    have hlt := (Array.getElem?_eq_some_iff.1 ho).1
    rw [getD_of (by omega)] at h1
    have hg := hopf j o ho
    simp only [opFits, Bool.and_eq_true] at hg
    have hgn : o.guard = none := by
      have := hg.1.1.1
      cases hx : o.guard with
      | none => rfl
      | some _ => rw [hx] at this; cases this
    have hw : Region.wanted o (yielded ops a.tmps) = true := by simp [Region.wanted, hgn]
    unfold wpOp
    simp only [ho, hw, if_true]
    refine .inl (rg_step hn hfit hb ho (hC j o ho) (by show L.getD j false = false; rw [getD_of (by omega)]; exact h1) he hi hJ fun ds' a' X' hi' hJ' => ?_)
    have hupd : upd (fun i => L.getD i false) j true = fun i => (L.setIfInBounds j true).getD i false := by
      funext i
      unfold upd
      by_cases hij : i = j
      · subst hij
        rw [if_pos rfl, getD_of (by simp; omega)]
        simp
      · rw [if_neg hij]
        simp [Array.getD_eq_getD_getElem?, Array.getElem?_setIfInBounds_ne (Ne.symm hij)]
    rw [hupd] at hi' hJ'
    refine ih _ ds' a' X' (by simpa using hs) ?_ hi' hJ'
    have := count_set (L := L) (i := j) (by rw [Array.getElem?_eq_getElem (by omega), h1])
    omega
/-- **WHATEVER THE ORDER**: a region that draws its order: each operation is shown once. -/
theorem rg_region {P : Program} {id : Nat} {l : List Oper} {Q : Exit → Act → World → Prop} {a0 : Act} {w : World} (tab : List (Nat × Nat)) (bs : List Nat) (n : Nat) (val : Nat → Nat → Value) (base : Nat → Value) (J : (Nat → Bool) → (Nat → Nat) → World → Prop)
    (hm : P.follows .mixedOrders = true) (hn : a0.tmps.size = n) (hfit : rgFits tab bs n l.toArray = true) (hb : ∀ t ∈ bs, base t = a0.tmps.getD t undef) (hJ : J (fun _ => false) (fun _ => 0) w.drew)
    (hC : AllFrom (OpGives P tab val base J) 0 l) (hQ : ∀ lt ds X, (∀ i, i < l.length → lt i = true) → J lt ds X → Q .normal (putAll a0 val ds tab) X) : (Code.region id l.toArray true).wp P Q a0 w := by
  have hf : (fun i => (Array.replicate l.toArray.size false).getD i false) = fun _ => false := by
    funext i
    by_cases h : i < l.length <;> simp [Array.getD, h]
  refine wp_region_any hm (rg_any (ds := fun _ => 0) hn hfit hb (fun j o ho => ?_) (fun lt ds X h1 h2 => hQ lt ds X (by simpa using h1) h2) _ _ _ _ (by simp) ?_ ?_ ?_)
  · have := hC.get j o (by simpa using ho)
    simpa using this
  · simp
  · rw [hf]
    refine ⟨rfl, rfl, fun t ht => ?_⟩
    rw [Array.getElem?_eq_getElem ht]
    cases List.lookup t tab <;> simp [Array.getD, ht]
  · rw [hf]; exact hJ
end Go.Proofs.YtchoelgkcnnnkaaGreatDoor
namespace Go.Proofs.YtchoelgkcnnnkaaGreatDoor
open Go Go.RowKit
/-- The values of operands: 'tab' says which operation writes a slot, 'val' what it yields (by the number of the block that it has made). -/
def rhoV (tab : List (Nat × Nat)) (val : Nat → Value → Value) (base : Nat → Value) (ds : Nat → Value) : Operand → Value
  | .tmp t => match tab.lookup t with | some i => val i (ds i) | none => base t
  | .const v => v
  | .global g => .pointer (some ⟨g, 0, none⟩)
  | .func f => .func (.func f) #[] #[]
theorem rho_constV {tab : List (Nat × Nat)} {val : Nat → Value → Value} {base : Nat → Value} {ds : Nat → Value} {ρ : Operand → Value} (h : ρ = rhoV tab val base ds) : ∀ v, ρ (.const v) = v := fun v => by rw [h]; rfl
theorem rho_funcV {tab : List (Nat × Nat)} {val : Nat → Value → Value} {base : Nat → Value} {ds : Nat → Value} {ρ : Operand → Value} (h : ρ = rhoV tab val base ds) : ∀ f, ρ (.func f) = .func (.func f) #[] #[] := fun f => by rw [h]; rfl
/-- The frame with all that 'tab' says. -/
def putAllV (a0 : Act) (val : Nat → Value → Value) (ds : Nat → Value) : List (Nat × Nat) → Act
  | [] => a0
  | (t, i) :: r => (putAllV a0 val ds r).put (some t) (val i (ds i))
theorem putAll_sizeV (a0 : Act) (val : Nat → Value → Value) (ds : Nat → Value) : ∀ tab, (putAllV a0 val ds tab).tmps.size = a0.tmps.size
  | [] => rfl
  | (t, i) :: r => by rw [putAllV, put_size]; exact putAll_sizeV a0 val ds r
theorem putAll_defersV (a0 : Act) (val : Nat → Value → Value) (ds : Nat → Value) : ∀ tab, (putAllV a0 val ds tab).defers = a0.defers
  | [] => rfl
  | (t, i) :: r => by rw [putAllV]; exact putAll_defersV a0 val ds r
theorem putAll_atV (a0 : Act) (val : Nat → Value → Value) (ds : Nat → Value) (t : Nat) (ht : t < a0.tmps.size) : ∀ tab, (putAllV a0 val ds tab).tmps[t]? = some (match List.lookup t tab with | some i => val i (ds i) | none => a0.tmps.getD t undef)
  | [] => by simp [putAllV, List.lookup, ht]
  | (s, i) :: r => by
    have ih := putAll_atV a0 val ds t ht r
    have hs := putAll_sizeV a0 val ds r
    rw [putAllV]
    by_cases h : t = s
    · subst h
      simp [Act.put, List.lookup, hs, ht]
    · have h' : (t == s) = false := by simpa using h
      rw [List.lookup, h']
      simp only [Act.put]
      rw [Array.getElem?_setIfInBounds_ne (Ne.symm h)]
      exact ih
structure InvAV (a0 : Act) (tab : List (Nat × Nat)) (val : Nat → Value → Value) (l : Nat → Bool) (ds : Nat → Value) (a : Act) : Prop where
  defers : a.defers = a0.defers
  size : a.tmps.size = a0.tmps.size
  get : ∀ t, t < a0.tmps.size → a.tmps[t]? = some (match List.lookup t tab with | some i => if l i = true then val i (ds i) else a0.tmps.getD t undef | none => a0.tmps.getD t undef)
theorem InvAV.fin {a0 a : Act} {tab : List (Nat × Nat)} {val : Nat → Value → Value} {l : Nat → Bool} {ds : Nat → Value} (h : InvAV a0 tab val l ds a) (hl : ∀ p ∈ tab, l p.2 = true) : a = putAllV a0 val ds tab := by
  have e1 : a.tmps = (putAllV a0 val ds tab).tmps := by
    refine Array.ext_getElem? fun t => ?_
    by_cases ht : t < a0.tmps.size
    · rw [h.get t ht, putAll_atV a0 val ds t ht tab]
      cases hk : List.lookup t tab with
      | none => rfl
      | some i =>
        have : (t, i) ∈ tab := by
          clear h hl
          induction tab with
          | nil => simp [List.lookup] at hk
          | cons p r ih =>
            obtain ⟨s, k⟩ := p
            rw [List.lookup] at hk
            by_cases e : t = s
            · subst e; simp at hk; subst hk; simp
            · have h' : (t == s) = false := by simpa using e
              rw [h'] at hk
              exact List.mem_cons_of_mem _ (ih hk)
        simp only [hl _ this, if_true]
    · rw [Array.getElem?_eq_none (by rw [h.size]; omega), Array.getElem?_eq_none (by rw [putAll_sizeV]; omega)]
  have e2 : a.defers = (putAllV a0 val ds tab).defers := by rw [h.defers, putAll_defersV]
  cases a
  cases hx : putAllV a0 val ds tab
  rw [hx] at e1 e2
  simp only at e1 e2
  subst e1 e2
  rfl
/-- What is shown of one operation. -/
def OpGivesV (P : Program) (tab : List (Nat × Nat)) (val : Nat → Value → Value) (base : Nat → Value) (J : (Nat → Bool) → (Nat → Value) → World → Prop) (j : Nat) (o : Oper) : Prop :=
  ∀ (l : Nat → Bool) (ds : Nat → Value) (X : World) (ρ : Operand → Value), ρ = rhoV tab val base ds → l j = false → (∀ e ∈ o.after, Region.binds .any e = true → l e.on = true) → J l ds X →
    Gives P o ρ X fun v X' => ∃ d, (o.dst ≠ none → v = val j d) ∧ J (upd l j true) (upd ds j d) X'
theorem rg_stepV {P : Program} {ops : Array Oper} {tab : List (Nat × Nat)} {bs : List Nat} {n : Nat} {val : Nat → Value → Value} {base : Nat → Value} {J : (Nat → Bool) → (Nat → Value) → World → Prop} {a0 : Act}
    (hn : a0.tmps.size = n) (hfit : rgFits tab bs n ops = true) (hb : ∀ t ∈ bs, base t = a0.tmps.getD t undef) {j : Nat} {o : Oper} (ho : ops[j]? = some o) (hC : OpGivesV P tab val base J j o)
    {l : Nat → Bool} {ds : Nat → Value} {a : Act} {X : World} (hl : l j = false) (he : ∀ e ∈ o.after, Region.binds .any e = true → l e.on = true) (hi : InvAV a0 tab val l ds a) (hJ : J l ds X)
    {K : Act → World → Prop} {Q : Exit → Act → World → Prop} (hk : ∀ ds' a' X', InvAV a0 tab val (upd l j true) ds' a' → J (upd l j true) ds' X' → K a' X') : o.wp P a X K Q := by
  simp only [rgFits, Bool.and_eq_true] at hfit
  obtain ⟨⟨hsel, hall⟩, htab⟩ := hfit
  have hjlt : j < ops.size := (Array.getElem?_eq_some_iff.1 ho).1
  have hof := List.all_eq_true.1 hall j (by simpa using hjlt)
  rw [ho] at hof
  simp only [opFits, Bool.and_eq_true] at hof
  obtain ⟨⟨⟨hg, hd⟩, _⟩, hop⟩ := hof
  have hrho : execOp a.eval o = execOp (rhoV tab val base ds) o := by
    refine execOp_congr o (fun cs b => Region.noSelect_spec hsel j o cs b ho) fun x hx => ?_
    have hxx := Array.all_eq_true_iff_forall_mem.1 hop x hx
    cases x with
    | tmp t =>
      simp only at hxx
      show a.tmps.getD t undef = (match tab.lookup t with | some i => val i (ds i) | none => base t)
      cases hk : tab.lookup t with
      | none =>
        rw [hk] at hxx
        simp only at hxx ⊢
        rw [hb t (by simpa using hxx)]
        by_cases ht : t < a0.tmps.size
        · have := hi.get t ht
          rw [hk] at this
          simp only at this
          rw [Array.getD_eq_getD_getElem?, this]; rfl
        · have x1 : a.tmps[t]? = none := Array.getElem?_eq_none (by rw [hi.size]; exact Nat.le_of_not_lt ht)
          have x2 : a0.tmps[t]? = none := Array.getElem?_eq_none (Nat.le_of_not_lt ht)
          rw [Array.getD_eq_getD_getElem?, Array.getD_eq_getD_getElem?, x1, x2]
      | some i =>
        rw [hk] at hxx
        simp only at hxx ⊢
        have hmem := lookup_mem hk
        have ht : t < a0.tmps.size := by
          have := List.all_eq_true.1 htab _ hmem
          simp only [Bool.and_eq_true, decide_eq_true_eq] at this
          rw [hn]; exact this.1
        have hli : l i = true := by
          rw [Array.any_eq_true'] at hxx
          obtain ⟨e, hem, hee⟩ := hxx
          simp only [Bool.and_eq_true, beq_iff_eq] at hee
          rw [← hee.2]; exact he e hem hee.1
        have := hi.get t ht
        rw [hk] at this
        simp only [hli, if_true] at this
        rw [Array.getD_eq_getD_getElem?, this]; rfl
    | const v => rfl
    | global g => rfl
    | func f => rfl
  have hgv := hC l ds X _ rfl hl he hJ
  have hgv' : Gives P o a.eval X fun v X' => ∃ d, (o.dst ≠ none → v = val j d) ∧ J (upd l j true) (upd ds j d) X' := by
    unfold Gives at hgv ⊢; rw [hrho]; exact hgv
  refine hgv'.wp fun v X' ⟨d, hv, hJ'⟩ => hk (upd ds j d) _ _ ?_ hJ'
  refine ⟨?_, ?_, fun t ht => ?_⟩
  · cases o.dst <;> exact hi.defers
  · rw [put_size]; exact hi.size
  · have hother : ∀ i, List.lookup t tab = some i → o.dst ≠ some t → i ≠ j := by
      intro i hkk hne hij
      have := List.all_eq_true.1 htab _ (lookup_mem hkk)
      rw [hij] at this
      rw [Bool.and_eq_true] at this
      have h2 := this.2
      rw [ho] at h2
      simp only [beq_iff_eq] at h2
      exact hne h2
    by_cases hdt : o.dst = some t
    · rw [hdt] at hd hv ⊢
      simp only [beq_iff_eq] at hd
      rw [hd]
      simp only [Act.put]
      rw [Array.getElem?_setIfInBounds_self]
      simp only [hi.size, ht, if_true, upd]
      rw [hv (by simp)]
    · have e1 : (a.put o.dst v).tmps[t]? = a.tmps[t]? := by
        cases hx : o.dst with
        | none => rfl
        | some s =>
          have hst : s ≠ t := fun e => hdt (by rw [hx, e])
          simp only [Act.put]
          exact Array.getElem?_setIfInBounds_ne hst
      rw [e1, hi.get t ht]
      cases hkk : List.lookup t tab with
      | none => rfl
      | some i =>
        have := hother i hkk hdt
        simp only [upd, if_neg this]
theorem rg_anyV {P : Program} {ops : Array Oper} {tab : List (Nat × Nat)} {bs : List Nat} {n : Nat} {val : Nat → Value → Value} {base : Nat → Value} {J : (Nat → Bool) → (Nat → Value) → World → Prop} {a0 : Act} {Q : Exit → Act → World → Prop}
    (hn : a0.tmps.size = n) (hfit : rgFits tab bs n ops = true) (hb : ∀ t ∈ bs, base t = a0.tmps.getD t undef) (hC : ∀ j o, ops[j]? = some o → OpGivesV P tab val base J j o)
    (hQ : ∀ l ds X, (∀ i, i < ops.size → l i = true) → J l ds X → Q .normal (putAllV a0 val ds tab) X) :
    ∀ (fuel : Nat) (L : Array Bool) (ds : Nat → Value) (a : Act) (X : World), L.size = ops.size → L.toList.count false ≤ fuel → InvAV a0 tab val (fun i => L.getD i false) ds a → J (fun i => L.getD i false) ds X → wpAny P .any ops Q fuel L a X := by
  have hfit' := hfit
  simp only [rgFits, Bool.and_eq_true] at hfit'
  obtain ⟨⟨hsel, hall⟩, htab⟩ := hfit'
  have hopf : ∀ j o, ops[j]? = some o → opFits tab bs j o = true := fun j o ho => by
    have := List.all_eq_true.1 hall j (by simpa using (Array.getElem?_eq_some_iff.1 ho).1)
    rwa [ho] at this
  -- where nothing is ready, all have come up
  have hdone : ∀ L : Array Bool, L.size = ops.size → Region.ready .any ops L = [] → ∀ i, i < ops.size → L.getD i false = true := by
    intro L hs hr i
    induction i using Nat.strongRecOn with
    | _ i ih =>
      intro hi
      cases hx : L.getD i false with
      | true => rfl
      | false =>
        have hmem : i ∈ Region.ready .any ops L := by
          refine mem_ready.2 ⟨?_, ops[i], Array.getElem?_eq_getElem hi, fun e he hbe => ?_⟩
          · rw [getD_of (by omega)] at hx ⊢; exact hx
          · have := hopf i ops[i] (Array.getElem?_eq_getElem hi)
            simp only [opFits, Bool.and_eq_true] at this
            have h2 := Array.all_eq_true_iff_forall_mem.1 this.1.2 e he
            rw [hbe] at h2
            simp at h2
            exact ih _ h2 (by omega)
        rw [hr] at hmem
        cases hmem
  have hend : ∀ (L : Array Bool) (ds : Nat → Value) (a : Act) (X : World), L.size = ops.size → Region.ready .any ops L = [] → InvAV a0 tab val (fun i => L.getD i false) ds a → J (fun i => L.getD i false) ds X → Q .normal a X := by
    intro L ds a X hs hr hi hJ
    have hd := hdone L hs hr
    rw [hi.fin (fun p hp => by
      have := List.all_eq_true.1 htab _ hp
      rw [Bool.and_eq_true] at this
      have h2 := this.2
      cases hx : ops[p.2]? with
      | none => rw [hx] at h2; cases h2
      | some o => exact hd _ (Array.getElem?_eq_some_iff.1 hx).1)]
    exact hQ _ ds X hd hJ
  intro fuel
  induction fuel with
  | zero =>
    intro L ds a X hs hc hi hJ
    have hr : Region.ready .any ops L = [] := by
      cases hx : Region.ready .any ops L with
      | nil => rfl
      | cons i r =>
        have hm : i ∈ Region.ready .any ops L := by rw [hx]; simp
        obtain ⟨h1, o, ho, _⟩ := mem_ready.1 hm
        have hlt := (Array.getElem?_eq_some_iff.1 ho).1
        rw [getD_of (by omega)] at h1
        have : 0 < L.toList.count false := List.count_pos_iff.2 (by rw [← h1]; simp)
        omega
    exact ⟨hr, hend L ds a X hs hr hi hJ⟩
  | succ fuel ih =>
    intro L ds a X hs hc hi hJ
    refine ⟨fun hr => hend L ds a X hs hr hi hJ, fun j hj => ?_⟩
    obtain ⟨h1, o, ho, he⟩ := mem_ready.1 hj
    have hlt := (Array.getElem?_eq_some_iff.1 ho).1
    rw [getD_of (by omega)] at h1
    have hg := hopf j o ho
    simp only [opFits, Bool.and_eq_true] at hg
    have hgn : o.guard = none := by
      have := hg.1.1.1
      cases hx : o.guard with
      | none => rfl
      | some _ => rw [hx] at this; cases this
    have hw : Region.wanted o (yielded ops a.tmps) = true := by simp [Region.wanted, hgn]
    unfold wpOp
    simp only [ho, hw, if_true]
    refine .inl (rg_stepV hn hfit hb ho (hC j o ho) (by show L.getD j false = false; rw [getD_of (by omega)]; exact h1) he hi hJ fun ds' a' X' hi' hJ' => ?_)
    have hupd : upd (fun i => L.getD i false) j true = fun i => (L.setIfInBounds j true).getD i false := by
      funext i
      unfold upd
      by_cases hij : i = j
      · subst hij
        rw [if_pos rfl, getD_of (by simp; omega)]
        simp
      · rw [if_neg hij]
        simp [Array.getD_eq_getD_getElem?, Array.getElem?_setIfInBounds_ne (Ne.symm hij)]
    rw [hupd] at hi' hJ'
    refine ih _ ds' a' X' (by simpa using hs) ?_ hi' hJ'
    have := count_set (L := L) (i := j) (by rw [Array.getElem?_eq_getElem (by omega), h1])
    omega
/-- **WHATEVER THE ORDER**: a region that draws its order: each operation is shown once. -/
theorem rg_regionV {P : Program} {id : Nat} {l : List Oper} {Q : Exit → Act → World → Prop} {a0 : Act} {w : World} (tab : List (Nat × Nat)) (bs : List Nat) (n : Nat) (val : Nat → Value → Value) (base : Nat → Value) (J : (Nat → Bool) → (Nat → Value) → World → Prop)
    (hm : P.follows .mixedOrders = true) (hn : a0.tmps.size = n) (hfit : rgFits tab bs n l.toArray = true) (hb : ∀ t ∈ bs, base t = a0.tmps.getD t undef) (hJ : J (fun _ => false) (fun _ => undef) w.drew)
    (hC : AllFrom (OpGivesV P tab val base J) 0 l) (hQ : ∀ lt ds X, (∀ i, i < l.length → lt i = true) → J lt ds X → Q .normal (putAllV a0 val ds tab) X) : (Code.region id l.toArray true).wp P Q a0 w := by
  have hf : (fun i => (Array.replicate l.toArray.size false).getD i false) = fun _ => false := by
    funext i
    by_cases h : i < l.length <;> simp [Array.getD, h]
  refine wp_region_any hm (rg_anyV (ds := fun _ => undef) hn hfit hb (fun j o ho => ?_) (fun lt ds X h1 h2 => hQ lt ds X (by simpa using h1) h2) _ _ _ _ (by simp) ?_ ?_ ?_)
  · have := hC.get j o (by simpa using ho)
    simpa using this
  · simp
  · rw [hf]
    refine ⟨rfl, rfl, fun t ht => ?_⟩
    rw [Array.getElem?_eq_getElem ht]
    cases List.lookup t tab <;> simp [Array.getD, ht]
  · rw [hf]; exact hJ
/-- All that stands stays: each operation's value has what G says of it; memory only grows. -/
def JG (G : Nat → Value → World → Prop) (w0 : World) (l : Nat → Bool) (ds : Nat → Value) (X : World) : Prop := Below w0.heap.size w0 X ∧ ∀ i, l i = true → G i (ds i) X
def Stays (G : Nat → Value → World → Prop) (B : Nat) : Prop := ∀ i d X Y, B ≤ X.heap.size → G i d X → Below X.heap.size X Y → G i d Y
theorem JG.start (G : Nat → Value → World → Prop) (w0 : World) : JG G w0 (fun _ => false) (fun _ => undef) w0.drew := ⟨below_drewN' (Below.refl _ _) 1, fun i h => by cases h⟩
theorem JG.op {G : Nat → Value → World → Prop} {w0 X Y : World} {l : Nat → Bool} {ds : Nat → Value} (hs : Stays G w0.heap.size) (h : JG G w0 l ds X) (hb : Below X.heap.size X Y) {j : Nat} {d : Value} (hd : G j d Y) : JG G w0 (upd l j true) (upd ds j d) Y := by
  refine ⟨h.1.trans (hb.mono h.1.size), fun i hi => ?_⟩
  by_cases e : i = j
  · subst e
    simp only [upd, if_pos rfl]
    exact hd
  · simp only [upd, if_neg e] at hi ⊢
    exact hs i _ _ _ h.1.size (h.2 i hi) hb
theorem JG.pure {G : Nat → Value → World → Prop} {w0 X : World} {l : Nat → Bool} {ds : Nat → Value} (hs : Stays G w0.heap.size) (h : JG G w0 l ds X) {j : Nat} {d : Value} (hd : G j d X) : JG G w0 (upd l j true) (upd ds j d) X := h.op hs (Below.refl _ _) hd
theorem Gives.append {P : Program} {o : Oper} {ρ : Operand → Value} {w : World} {Φ : Value → World → Prop} (s x : Operand) (t : TypeId) (hop : o.op = Op.call { callee := Callee.builtin Builtin.append, args := #[s, x], argTypes := #[t, t] })
    (e : TypeId) (i : TypeInfo) (z : Value) (size bytes : Nat) (h1 : P.underlying t = some (.slice e)) (h2 : P.info? e = some i) (h3 : i.zero = some z) (h4 : i.size = size) (h5 : i.bytes = bytes) (h6 : z.cells.size = size) (h7 : 0 < size)
    (ao : Option Addr) (n cap : Nat) (olds : List Value) (hs : ρ s = .slice ao n cap) (hnone : ao = none → n = 0 ∧ cap = 0) (hlo : olds.length = n * size) (holds : ∀ b, ao = some b → ∀ j u, olds[j]? = some u → w.cell? (b.add j) = some u)
    (ad : Addr) (m c : Nat) (news : List Value) (hx : ρ x = .slice (some ad) m c) (hn : news.length = m * size) (hc : ∀ j u, news[j]? = some u → w.cell? (ad.add j) = some u) (h1c : ∀ u ∈ news, u.oneCell' = true)
    (hfull : cap < n + m) (b1 : n + m ≤ maxLen) (b2 : (n + m) * bytes ≤ 140737488355328)
    (hK : ∀ v' w', w'.ownsRow w.heap.size e size v' (n + m) (olds ++ news) → w.grownBy w' none → Φ v' w') : Gives P o ρ w Φ := by
  cases ao with
  | some b =>
    obtain ⟨v', w', hrun, r1, r2⟩ := run_append_arg_grows (P := P) w t o.type e i z size bytes h1 h2 h3 h4 h5 h6 h7 b n cap olds hlo (holds b rfl) ad m c news hn hc hfull b1 b2
    unfold Gives
    simp [execOp, hop, resolve, invoke, builtin, hs, hx, hrun]
    exact hK v' w' r1 r2
  | none =>
    obtain ⟨rfl, rfl⟩ := hnone rfl
    obtain rfl : olds = [] := List.eq_nil_of_length_eq_zero (by simpa using hlo)
    obtain ⟨v', w', hrun, r1, r2, _⟩ := run_append_own (P := P) w w.heap.size t o.type e i z size bytes h1 h2 h3 h4 h5 h6 h7 (.slice none 0 0) 0 [] (World.ownsRow_nil w _ e size) ad m c news hn hc h1c b1 b2 (Nat.le_refl _)
    unfold Gives
    simp [execOp, hop, resolve, invoke, builtin, hs, hx, hrun]
    exact hK v' w' r1 r2
end Go.Proofs.YtchoelgkcnnnkaaGreatDoor
namespace Go.Proofs.YtchoelgkcnnnkaaGreatDoor
open Go.RowKit
set_option maxRecDepth 100000 in
set_option maxHeartbeats 2000000 in
theorem in_bad (v : Value) (ts : List Tm) (xa : Option Addr) (xn xc : Nat) (w : World) (hT : TermsIn w v ts) (hl : ts.length ≤ 9223372036854775807) (HV : Hid (false = Pl.validB ts)) :
    Calls Tryz.prog 27 #[v, .slice xa xn xc] w fun e w' => e = .returned (.slice none 0 0) ∧ Below w.heap.size w w' := by
  have HT := Lib.hid hT
  obtain ⟨a, c, rfl, _⟩ := hT
  go_enter Tryz.func27, Tryz.ntmps27
  go_wp2_with fail
  refine (namesR_bad _ ts _ HT.out hl HV).mono ?_
  rintro e w1 ⟨rfl, hb⟩
  have HB := Lib.hid hb
  clear hb
  go_wp2_with fail
  refine wp_loop_rounds 1 ?_
  rw [rounds_succ]
  go_wp2_with fail
  go_ret
  exact ⟨rfl, HB.out⟩
end Go.Proofs.YtchoelgkcnnnkaaGreatDoor
namespace Go.Proofs.YtchoelgkcnnnkaaGreatDoor
open Go.RowKit
theorem first_bad (P : Nat → Prop) (i : Nat) (h : ¬ P i) : ∃ j, ¬ P j ∧ ∀ k, k < j → P k := by
  induction i using Nat.strongRecOn with
  | ind i ih =>
    by_cases hall : ∀ k, k < i → P k
    · exact ⟨i, h, hall⟩
    · obtain ⟨k, hk⟩ := Classical.not_forall.1 hall
      obtain ⟨hk1, hk2⟩ := Classical.not_imp.1 hk
      exact ih k hk1 hk2
/-- What both come to: a value or none; or a refusal. -/
def VPost (o : Option (Option Tm)) (w : World) (e : Ending) (w' : World) : Prop := match o with | some r => ValPost r w e w' | none => NoPost w e w'
theorem value_both (ts vs : List Tm) (hl : ts.length ≤ 9223372036854775807) : ∃ o, ∀ (v u : Value) (w : World), TermsIn w v ts → TermsIn w u vs → Calls Tryz.prog 28 #[v, u] w (VPost o w) ∧ Calls Tryz.prog 29 #[v, u] w (VPost o w) := by
  cases hv : Pl.validB ts with
  | false =>
    refine ⟨none, fun v u w hT hU => ?_⟩
    have hT' := hT
    obtain ⟨da, c, rfl, _⟩ := hT'
    obtain ⟨ua, uc, rfl, _⟩ := hU
    exact ⟨value_inv ts da c ua _ uc w hT hl (Lib.hid hv.symm), valueR_inv _ ts ua _ uc w hT hl (Lib.hid hv.symm)⟩
  | true =>
    obtain ⟨hl60, f, hwf, hd, rfl⟩ := (Pl.validB_iff ts).1 hv
    by_cases hty : Pl.ty f = 0
    · refine ⟨none, fun v u w hT hU => ?_⟩
      obtain ⟨d, off, c, rfl, hc, hrow, _⟩ := pairs_terms hT
      obtain ⟨ua, uc, rfl, _⟩ := hU
      exact ⟨value_ty f d off c w hc hrow hwf hl60 hd ua _ uc hty, valueR_ty f d off c w hc hrow hwf hl60 hd ua _ uc hty⟩
    by_cases hne : vs.length = (Pl.namesOf f.flat).length
    case neg =>
      refine ⟨none, fun v u w hT hU => ?_⟩
      obtain ⟨d, off, c, rfl, hc, hrow, _⟩ := pairs_terms hT
      obtain ⟨ua, uc, rfl, _⟩ := hU
      exact ⟨value_len f d off c w hc hrow hwf hl60 hd ua _ uc hty hne, valueR_len f d off c w hc hrow hwf hl60 hd ua _ uc hty hne⟩
    case pos =>
    by_cases hok : ∀ (i : Nat), ∀ n x, (Pl.namesOf f.flat)[i]? = some n → vs[i]? = some x → Pl.validV x = true ∧ x.k = Pl.typeOf n.data.toList
    · refine ⟨some (Pl.val (Pl.envOf (Pl.namesOf f.flat) vs) f), fun v u w hT hU => ?_⟩
      obtain ⟨d, off, c, rfl, hc, hrow, _⟩ := pairs_terms hT
      exact ⟨value_ok u f vs d off c w hc hrow hU hwf hl60 hd hty hne hok, valueR_ok u f vs d off c w hc hrow hU hwf hl60 hd hty hne hok⟩
    · refine ⟨none, fun v u w hT hU => ?_⟩
      obtain ⟨i, hi⟩ := Classical.not_forall.1 hok
      obtain ⟨j, hj, hlow⟩ := first_bad (fun i => ∀ n x, (Pl.namesOf f.flat)[i]? = some n → vs[i]? = some x → Pl.validV x = true ∧ x.k = Pl.typeOf n.data.toList) i hi
      obtain ⟨n, hn⟩ := Classical.not_forall.1 hj
      obtain ⟨x, hx⟩ := Classical.not_forall.1 hn
      obtain ⟨h1, h2⟩ := Classical.not_imp.1 hx
      obtain ⟨h3, h4⟩ := Classical.not_imp.1 h2
      have hjl := (List.getElem?_eq_some_iff.1 h3).1
      have hbad : ∀ n' x', (Pl.namesOf f.flat)[j]? = some n' → vs[j]? = some x' → Pl.validV x' = false ∨ x'.k ≠ Pl.typeOf n'.data.toList := by
        intro n' x' hn' hx'
        rw [h1] at hn'
        rw [h3] at hx'
        cases hn'
        cases hx'
        cases hvx : Pl.validV x with
        | false => exact .inl rfl
        | true => exact .inr fun e => h4 ⟨hvx, e⟩
      obtain ⟨d, off, c, rfl, hc, hrow, _⟩ := pairs_terms hT
      exact ⟨value_val f d off c w hc hrow hwf hl60 hd u vs hU hty hne j hjl (fun i n x hij a b => hlow i hij n x a b) hbad, valueR_val f d off c w hc hrow hwf hl60 hd u vs hU hty hne j hjl (fun i n x hij a b => hlow i hij n x a b) hbad⟩
end Go.Proofs.YtchoelgkcnnnkaaGreatDoor
namespace Go.Proofs.YtchoelgkcnnnkaaGreatDoor
open Go.RowKit
def SamePost (rk rn : Int) (rs : ByteArray) (rb : Bool) (re : Int) (w : World) (e : Ending) (w' : World) : Prop := e = .returned (.tuple #[.agg #[.int .i64 rk, .int .i64 rn, .string rs], .bool rb, .int .i64 re]) ∧ Below w.heap.size w w'
theorem value_same (ts vs : List Tm) (hl : ts.length ≤ 9223372036854775807) : ∃ rk rn rs rb re, ∀ (v u : Value) (w : World), TermsIn w v ts → TermsIn w u vs → Calls Tryz.prog 28 #[v, u] w (SamePost rk rn rs rb re w) ∧ Calls Tryz.prog 29 #[v, u] w (SamePost rk rn rs rb re w) := by
  obtain ⟨o, ho⟩ := value_both ts vs hl
  match o, ho with
  | some (some r), ho => exact ⟨r.k, r.n, r.s, true, 0, fun v u w hT hU => ho v u w hT hU⟩
  | some none, ho => exact ⟨0, 0, ⟨#[]⟩, false, 0, fun v u w hT hU => ho v u w hT hU⟩
  | none, ho => exact ⟨0, 0, ⟨#[]⟩, false, 150, fun v u w hT hU => ho v u w hT hU⟩
/-- A slice of values: what append must know of it. -/
structure OwnV (w : World) (ao : Option Addr) (cap : Nat) (ts : List Tm) : Prop where
  len : ts.length ≤ cap
  nil : ao = none → ts.length = 0 ∧ cap = 0
  blk : ∀ b, ao = some b → b.block < w.heap.size
  cells : ∀ b, ao = some b → ∀ j u, (tmCells ts)[j]? = some u → w.cell? (b.add j) = some u
  small : ∀ t ∈ ts, t.s.size ≤ 3
theorem OwnV.below {w w' : World} {ao : Option Addr} {cap : Nat} {ts : List Tm} (h : OwnV w ao cap ts) (hb : Below w.heap.size w w') : OwnV w' ao cap ts where
  len := h.len
  nil := h.nil
  blk := fun b e => Nat.lt_of_lt_of_le (h.blk b e) hb.size
  cells := fun b e j u hj => by
    have h1 := h.blk b e
    have h2 := h.cells b e j u hj
    have h3 : (b.add j).block = b.block := by unfold Addr.add; split <;> rfl
    rw [hb.cell (p := b.add j) (by rw [h3]; exact h1)]
    exact h2
  small := h.small
theorem OwnV.of {w : World} {B : Nat} {v : Value} {ts : List Tm} (h : w.ownsRow B 48 3 v ts.length (tmCells ts)) (hs : ∀ t ∈ ts, t.s.size ≤ 3) : ∃ ao cap, v = .slice ao ts.length cap ∧ OwnV w ao cap ts := by
  have h' := h
  rcases h.2 with ⟨h1, h2⟩ | ⟨g, cap, cur, h1, _, _, hn, _⟩
  · exact ⟨none, 0, by rw [h1, h2], by omega, fun _ => ⟨h2, rfl⟩, fun b e => (by cases e), fun b e => (by cases e), hs⟩
  · refine ⟨some ⟨g, 0, none⟩, cap, h1, hn, fun e => (by cases e), fun b e => ?_, fun b e j u hj => ?_, hs⟩
    · cases e
      rw [h1] at h'
      exact (World.ownsRow.lt h' g rfl).2
    · cases e
      rw [h1] at h'
      have hlt : j < ts.length * 3 := by
        have := (List.getElem?_eq_some_iff.1 hj).1
        rw [tmCells_size3] at this
        exact this
      have := World.ownsRow.cellAt h' j hlt
      rw [add_plain, Nat.zero_add]
      exact this.trans hj
theorem OwnV.terms {w : World} {ao : Option Addr} {cap : Nat} {ts : List Tm} {B : Nat} (h : w.ownsRow B 48 3 (.slice ao ts.length cap) ts.length (tmCells ts)) (hs : ∀ t ∈ ts, t.s.size ≤ 3) : TermsIn w (.slice ao ts.length cap) ts :=
  vals_terms h fun t ht => Nat.le_trans (hs t ht) (by decide)
/-- What append gives, one value more. -/
theorem terms_more {w : World} {B : Nat} {v : Value} {ts : List Tm} {x : Tm} (h : w.ownsRow B 48 3 v (ts.length + 1) (tmCells ts ++ tmCells [x])) (hs : ∀ t ∈ ts, t.s.size ≤ 3) (hx : x.s.size ≤ 9223372036854775807) : TermsIn w v (ts ++ [x]) := by
  rw [← tmCells_append] at h
  refine vals_terms (B := B) (by simpa using h) fun t ht => ?_
  rcases List.mem_append.1 ht with h1 | h1
  · exact Nat.le_trans (hs t h1) (by decide)
  · rw [List.mem_singleton.1 h1]; exact hx
theorem blk_keep {X Y : World} {d : Nat} {o : Obj} (h : X.heap[d]? = some o) (hb : Below X.heap.size X Y) : Y.heap[d]? = some o := (hb.block _ (Array.getElem?_eq_some_iff.1 h).1).trans h
theorem stays_cell {X Y : World} {g j : Nat} {u : Value} (h : X.cell? ⟨g, j, none⟩ = some u) (hb : Below X.heap.size X Y) : Y.cell? ⟨g, j, none⟩ = some u := (hb.cell (p := ⟨g, j, none⟩) (lt_of_cell h)).trans h
/-- What stands behind each operation of the region that makes the five lists of values. -/
def GR (k m : Int) (t : ByteArray) (i : Nat) (d : Value) (X : World) : Prop :=
  match i with
  | 3 => ∃ us, TermsIn X d us
  | 17 => ∃ g, d = .slice (some ⟨g, 0, none⟩) 1 1 ∧ X.heap[g]? = some (.cells #[.int .i64 k, .int .i64 m, .string t] 48 (0, 0))
  | 18 => ∃ us, TermsIn X d us
  | 19 => ∃ g, d = .slice (some ⟨g, 0, none⟩) 5 5 ∧ ∀ j, j < 5 → ∃ u us, X.cell? ⟨g, j, none⟩ = some u ∧ TermsIn X u us
  | 21 => ∃ g j, d = .pointer (some ⟨g, j, none⟩) ∧ ∃ u us, X.cell? ⟨g, j, none⟩ = some u ∧ TermsIn X u us
  | 22 => ∃ us, TermsIn X d us
  | 23 => ∃ us, TermsIn X d us
  | _ => True
theorem GR.stays (k m : Int) (t : ByteArray) (B : Nat) : Stays (GR k m t) B := by
  intro i d X Y _ h hb
  unfold GR at h ⊢
  split at h
  · obtain ⟨us, h⟩ := h; exact ⟨us, h.below hb⟩
  · obtain ⟨g, e, h⟩ := h; exact ⟨g, e, blk_keep h hb⟩
  · obtain ⟨us, h⟩ := h; exact ⟨us, h.below hb⟩
  · obtain ⟨g, e, h⟩ := h
    refine ⟨g, e, fun j hj => ?_⟩
    obtain ⟨u, us, h1, h2⟩ := h j hj
    exact ⟨u, us, stays_cell h1 hb, h2.below hb⟩
  · obtain ⟨g, j, e, u, us, h1, h2⟩ := h
    exact ⟨g, j, e, u, us, stays_cell h1 hb, h2.below hb⟩
  · obtain ⟨us, h⟩ := h; exact ⟨us, h.below hb⟩
  · obtain ⟨us, h⟩ := h; exact ⟨us, h.below hb⟩
  · trivial
end Go.Proofs.YtchoelgkcnnnkaaGreatDoor
