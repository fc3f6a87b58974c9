/- A LAW ON REGIONS THAT DRAW THEIR ORDER: what each operation gives is shown once, from what stands behind the operations that it waits for; whatever the order, what stands at the end is the same, but for the numbers of new blocks. -/
import Derived.OrdersHeld
import Derived.WalkKit
namespace Go.Proofs.YtchoelgkcnnnkaaGreatDoor
open Go Go.RowKit
def upd {α : Type} (f : Nat → α) (j : Nat) (v : α) : Nat → α := fun i => if i = j then v else f i
/-- What an operation gives: a value, or what a call hands back. -/
def Gives (P : Program) (o : Oper) (ρ : Operand → Value) (X : World) (Φ : Value → World → Prop) : Prop :=
  match (execOp ρ o).run P X with
  | .ok (.value u) X' => Φ u X'
  | .ok .skip X' => Φ undef X'
  | .ok (.enter f args) X' => Calls P f args X' fun e X'' => ∃ v, e = .returned v ∧ Φ v X''
  | _ => False
theorem Gives.wp {P : Program} {o : Oper} {a : Act} {X : World} {Φ : Value → World → Prop} {K : Act → World → Prop} {Q : Exit → Act → World → Prop} (h : Gives P o a.eval X Φ) (hk : ∀ v X', Φ v X' → K (a.put o.dst v) X') : o.wp P a X K Q := by
  unfold Gives at h
  unfold Oper.wp
  generalize (execOp a.eval o).run P X = r at *
  cases r with
  | ok n X' =>
    cases n <;> simp only [] at h <;> simp only [Oper.upon]
    case value u => exact hk _ _ h
    case skip => exact hk _ _ h
    case enter f args => exact h.mono fun e w'' ⟨v, he, hv⟩ => by subst he; exact hk _ _ hv
  | halt x X' => cases x <;> exact absurd h id
theorem Gives.value {P : Program} {o : Oper} {ρ : Operand → Value} {X X' : World} {u : Value} {Φ : Value → World → Prop} (h : (execOp ρ o).run P X = .ok (.value u) X') (hp : Φ u X') : Gives P o ρ X Φ := by unfold Gives; rw [h]; exact hp
theorem Gives.skip {P : Program} {o : Oper} {ρ : Operand → Value} {X X' : World} {Φ : Value → World → Prop} (h : (execOp ρ o).run P X = .ok .skip X') (hp : Φ undef X') : Gives P o ρ X Φ := by unfold Gives; rw [h]; exact hp
theorem Gives.call {P : Program} {o : Oper} {ρ : Operand → Value} {X X' : World} {f : FuncId} {args : Array Value} {Φ : Value → World → Prop} (h : (execOp ρ o).run P X = .ok (.enter f args) X') (hp : Calls P f args X' fun e X'' => ∃ v, e = .returned v ∧ Φ v X'') : Gives P o ρ X Φ := by unfold Gives; rw [h]; exact hp
/-- The values of operands: 'tab' says which operation writes a slot, 'val' what it yields (by the number of the block that it has made). -/
def rho (tab : List (Nat × Nat)) (val : Nat → Nat → Value) (base : Nat → Value) (ds : Nat → Nat) : Operand → Value
  | .tmp t => match tab.lookup t with | some i => val i (ds i) | none => base t
  | .const v => v
  | .global g => .pointer (some ⟨g, 0, none⟩)
  | .func f => .func (.func f) #[] #[]
def opFits (tab : List (Nat × Nat)) (bs : List Nat) (j : Nat) (o : Oper) : Bool :=
  o.guard.isNone && (match o.dst with | some s => tab.lookup s == some j | none => true) && (o.after.all fun e => !Region.binds .any e || decide (e.on < j)) &&
  (o.op.operands.all fun x => match x with
    | .tmp t => (match tab.lookup t with | some i => o.after.any fun e => Region.binds .any e && e.on == i | none => bs.contains t)
    | _ => true)
def rgFits (tab : List (Nat × Nat)) (bs : List Nat) (n : Nat) (ops : Array Oper) : Bool :=
  Region.noSelect ops && ((List.range ops.size).all fun j => match ops[j]? with | some o => opFits tab bs j o | none => false) &&
  (tab.all fun p => decide (p.1 < n) && (match ops[p.2]? with | some o => o.dst == some p.1 | none => false))
theorem rho_const {tab : List (Nat × Nat)} {val : Nat → Nat → Value} {base : Nat → Value} {ds : Nat → Nat} {ρ : Operand → Value} (h : ρ = rho tab val base ds) : ∀ v, ρ (.const v) = v := fun v => by rw [h]; rfl
theorem rho_func {tab : List (Nat × Nat)} {val : Nat → Nat → Value} {base : Nat → Value} {ds : Nat → Nat} {ρ : Operand → Value} (h : ρ = rho tab val base ds) : ∀ f, ρ (.func f) = .func (.func f) #[] #[] := fun f => by rw [h]; rfl
/-- The frame with all that 'tab' says. -/
def putAll (a0 : Act) (val : Nat → Nat → Value) (ds : Nat → Nat) : List (Nat × Nat) → Act
  | [] => a0
  | (t, i) :: r => (putAll a0 val ds r).put (some t) (val i (ds i))
theorem put_size (a : Act) (d : Option Tmp) (v : Value) : (a.put d v).tmps.size = a.tmps.size := by
  cases d <;> simp [Act.put]
theorem putAll_size (a0 : Act) (val : Nat → Nat → Value) (ds : Nat → Nat) : ∀ tab, (putAll a0 val ds tab).tmps.size = a0.tmps.size
  | [] => rfl
  | (t, i) :: r => by rw [putAll, put_size]; exact putAll_size a0 val ds r
theorem putAll_defers (a0 : Act) (val : Nat → Nat → Value) (ds : Nat → Nat) : ∀ tab, (putAll a0 val ds tab).defers = a0.defers
  | [] => rfl
  | (t, i) :: r => by rw [putAll]; exact putAll_defers a0 val ds r
theorem putAll_at (a0 : Act) (val : Nat → Nat → Value) (ds : Nat → Nat) (t : Nat) (ht : t < a0.tmps.size) : ∀ tab, (putAll a0 val ds tab).tmps[t]? = some (match List.lookup t tab with | some i => val i (ds i) | none => a0.tmps.getD t undef)
  | [] => by simp [putAll, List.lookup, ht]
  | (s, i) :: r => by
    have ih := putAll_at a0 val ds t ht r
    have hs := putAll_size a0 val ds r
    rw [putAll]
    by_cases h : t = s
    · subst h
      simp [Act.put, List.lookup, hs, ht]
    · have h' : (t == s) = false := by simpa using h
      rw [List.lookup, h']
      simp only [Act.put]
      rw [Array.getElem?_setIfInBounds_ne (Ne.symm h)]
      exact ih
structure InvA (a0 : Act) (tab : List (Nat × Nat)) (val : Nat → Nat → Value) (l : Nat → Bool) (ds : Nat → Nat) (a : Act) : Prop where
  defers : a.defers = a0.defers
  size : a.tmps.size = a0.tmps.size
  get : ∀ t, t < a0.tmps.size → a.tmps[t]? = some (match List.lookup t tab with | some i => if l i = true then val i (ds i) else a0.tmps.getD t undef | none => a0.tmps.getD t undef)
theorem InvA.fin {a0 a : Act} {tab : List (Nat × Nat)} {val : Nat → Nat → Value} {l : Nat → Bool} {ds : Nat → Nat} (h : InvA a0 tab val l ds a) (hl : ∀ p ∈ tab, l p.2 = true) : a = putAll a0 val ds tab := by
  have e1 : a.tmps = (putAll a0 val ds tab).tmps := by
    refine Array.ext_getElem? fun t => ?_
    by_cases ht : t < a0.tmps.size
    · rw [h.get t ht, putAll_at a0 val ds t ht tab]
      cases hk : List.lookup t tab with
      | none => rfl
      | some i =>
        have : (t, i) ∈ tab := by
          clear h hl
          induction tab with
          | nil => simp [List.lookup] at hk
          | cons p r ih =>
            obtain ⟨s, k⟩ := p
            rw [List.lookup] at hk
            by_cases e : t = s
            · subst e; simp at hk; subst hk; simp
            · have h' : (t == s) = false := by simpa using e
              rw [h'] at hk
              exact List.mem_cons_of_mem _ (ih hk)
        simp only [hl _ this, if_true]
    · rw [Array.getElem?_eq_none (by rw [h.size]; omega), Array.getElem?_eq_none (by rw [putAll_size]; omega)]
  have e2 : a.defers = (putAll a0 val ds tab).defers := by rw [h.defers, putAll_defers]
  cases a
  cases hx : putAll a0 val ds tab
  rw [hx] at e1 e2
  simp only at e1 e2
  subst e1 e2
  rfl
theorem lookup_mem {t i : Nat} : ∀ {tab : List (Nat × Nat)}, List.lookup t tab = some i → (t, i) ∈ tab
  | [], h => by simp [List.lookup] at h
  | (s, k) :: r, h => by
    rw [List.lookup] at h
    by_cases e : t = s
    · subst e; simp at h; subst h; simp
    · have h' : (t == s) = false := by simpa using e
      rw [h'] at h
      exact List.mem_cons_of_mem _ (lookup_mem h)
def AllFrom (C : Nat → Oper → Prop) : Nat → List Oper → Prop
  | _, [] => True
  | k, o :: r => C k o ∧ AllFrom C (k + 1) r
theorem AllFrom.get {C : Nat → Oper → Prop} : ∀ {l : List Oper} {k : Nat}, AllFrom C k l → ∀ (i : Nat) (o : Oper), l[i]? = some o → C (k + i) o
  | [], _, _, i, o, h => by simp at h
  | x :: r, k, h, 0, o, ho => by simp at ho; subst ho; exact h.1
  | x :: r, k, h, i + 1, o, ho => by
    have := AllFrom.get h.2 i o (by simpa using ho)
    rwa [show k + 1 + i = k + (i + 1) by omega] at this
/-- What is shown of one operation. -/
def OpGives (P : Program) (tab : List (Nat × Nat)) (val : Nat → Nat → Value) (base : Nat → Value) (J : (Nat → Bool) → (Nat → Nat) → World → Prop) (j : Nat) (o : Oper) : Prop :=
  ∀ (l : Nat → Bool) (ds : Nat → Nat) (X : World) (ρ : Operand → Value), ρ = rho tab val base ds → l j = false → (∀ e ∈ o.after, Region.binds .any e = true → l e.on = true) → J l ds X →
    Gives P o ρ X fun v X' => ∃ d, (o.dst ≠ none → v = val j d) ∧ J (upd l j true) (upd ds j d) X'
theorem rg_step {P : Program} {ops : Array Oper} {tab : List (Nat × Nat)} {bs : List Nat} {n : Nat} {val : Nat → Nat → Value} {base : Nat → Value} {J : (Nat → Bool) → (Nat → Nat) → World → Prop} {a0 : Act}
    (hn : a0.tmps.size = n) (hfit : rgFits tab bs n ops = true) (hb : ∀ t ∈ bs, base t = a0.tmps.getD t undef) {j : Nat} {o : Oper} (ho : ops[j]? = some o) (hC : OpGives P tab val base J j o)
    {l : Nat → Bool} {ds : Nat → Nat} {a : Act} {X : World} (hl : l j = false) (he : ∀ e ∈ o.after, Region.binds .any e = true → l e.on = true) (hi : InvA a0 tab val l ds a) (hJ : J l ds X)
    {K : Act → World → Prop} {Q : Exit → Act → World → Prop} (hk : ∀ ds' a' X', InvA a0 tab val (upd l j true) ds' a' → J (upd l j true) ds' X' → K a' X') : o.wp P a X K Q := by
  simp only [rgFits, Bool.and_eq_true] at hfit
  obtain ⟨⟨hsel, hall⟩, htab⟩ := hfit
  have hjlt : j < ops.size := (Array.getElem?_eq_some_iff.1 ho).1
  have hof := List.all_eq_true.1 hall j (by simpa using hjlt)
  rw [ho] at hof
  simp only [opFits, Bool.and_eq_true] at hof
  obtain ⟨⟨⟨hg, hd⟩, _⟩, hop⟩ := hof
  have hrho : execOp a.eval o = execOp (rho tab val base ds) o := by
    refine execOp_congr o (fun cs b => Region.noSelect_spec hsel j o cs b ho) fun x hx => ?_
    have hxx := Array.all_eq_true_iff_forall_mem.1 hop x hx
    cases x with
    | tmp t =>
      simp only at hxx
      show a.tmps.getD t undef = (match tab.lookup t with | some i => val i (ds i) | none => base t)
      cases hk : tab.lookup t with
      | none =>
        rw [hk] at hxx
        simp only at hxx ⊢
        rw [hb t (by simpa using hxx)]
        by_cases ht : t < a0.tmps.size
        · have := hi.get t ht
          rw [hk] at this
          simp only at this
          rw [Array.getD_eq_getD_getElem?, this]; rfl
        · have x1 : a.tmps[t]? = none := Array.getElem?_eq_none (by rw [hi.size]; exact Nat.le_of_not_lt ht)
          have x2 : a0.tmps[t]? = none := Array.getElem?_eq_none (Nat.le_of_not_lt ht)
          rw [Array.getD_eq_getD_getElem?, Array.getD_eq_getD_getElem?, x1, x2]
      | some i =>
        rw [hk] at hxx
        simp only at hxx ⊢
        have hmem := lookup_mem hk
        have ht : t < a0.tmps.size := by
          have := List.all_eq_true.1 htab _ hmem
          simp only [Bool.and_eq_true, decide_eq_true_eq] at this
          rw [hn]; exact this.1
        have hli : l i = true := by
          rw [Array.any_eq_true'] at hxx
          obtain ⟨e, hem, hee⟩ := hxx
          simp only [Bool.and_eq_true, beq_iff_eq] at hee
          rw [← hee.2]; exact he e hem hee.1
        have := hi.get t ht
        rw [hk] at this
        simp only [hli, if_true] at this
        rw [Array.getD_eq_getD_getElem?, this]; rfl
    | const v => rfl
    | global g => rfl
    | func f => rfl
  have hgv := hC l ds X _ rfl hl he hJ
  have hgv' : Gives P o a.eval X fun v X' => ∃ d, (o.dst ≠ none → v = val j d) ∧ J (upd l j true) (upd ds j d) X' := by
    unfold Gives at hgv ⊢; rw [hrho]; exact hgv
  refine hgv'.wp fun v X' ⟨d, hv, hJ'⟩ => hk (upd ds j d) _ _ ?_ hJ'
  refine ⟨?_, ?_, fun t ht => ?_⟩
  · cases o.dst <;> exact hi.defers
  · rw [put_size]; exact hi.size
  · have hother : ∀ i, List.lookup t tab = some i → o.dst ≠ some t → i ≠ j := by
      intro i hkk hne hij
      have := List.all_eq_true.1 htab _ (lookup_mem hkk)
      rw [hij] at this
      rw [Bool.and_eq_true] at this
      have h2 := this.2
      rw [ho] at h2
      simp only [beq_iff_eq] at h2
      exact hne h2
    by_cases hdt : o.dst = some t
    · rw [hdt] at hd hv ⊢
      simp only [beq_iff_eq] at hd
      rw [hd]
      simp only [Act.put]
      rw [Array.getElem?_setIfInBounds_self]
      simp only [hi.size, ht, if_true, upd]
      rw [hv (by simp)]
    · have e1 : (a.put o.dst v).tmps[t]? = a.tmps[t]? := by
        cases hx : o.dst with
        | none => rfl
        | some s =>
          have hst : s ≠ t := fun e => hdt (by rw [hx, e])
          simp only [Act.put]
          exact Array.getElem?_setIfInBounds_ne hst
      rw [e1, hi.get t ht]
      cases hkk : List.lookup t tab with
      | none => rfl
      | some i =>
        have := hother i hkk hdt
        simp only [upd, if_neg this]
theorem count_set {L : Array Bool} {i : Nat} (h : L[i]? = some false) : (L.setIfInBounds i true).toList.count false + 1 = L.toList.count false := by
  have hi := (Array.getElem?_eq_some_iff.1 h).1
  have hv := (Array.getElem?_eq_some_iff.1 h).2
  have e : (L.setIfInBounds i true).toList = L.toList.set i true := by simp
  rw [e, List.count_set (by simpa using hi)]
  have hc : 0 < L.toList.count false := List.count_pos_iff.2 (by rw [← hv]; simp)
  have hv' : L.toList[i]'(by simpa using hi) = false := by simpa using hv
  rw [hv', if_pos (by decide), if_neg (by decide)]
  omega
theorem getD_of {L : Array Bool} {i : Nat} (h : i < L.size) (x : Bool) : L.getD i x = L[i] := by simp [Array.getD, h]
theorem rg_any {P : Program} {ops : Array Oper} {tab : List (Nat × Nat)} {bs : List Nat} {n : Nat} {val : Nat → Nat → Value} {base : Nat → Value} {J : (Nat → Bool) → (Nat → Nat) → World → Prop} {a0 : Act} {Q : Exit → Act → World → Prop}
    (hn : a0.tmps.size = n) (hfit : rgFits tab bs n ops = true) (hb : ∀ t ∈ bs, base t = a0.tmps.getD t undef) (hC : ∀ j o, ops[j]? = some o → OpGives P tab val base J j o)
    (hQ : ∀ l ds X, (∀ i, i < ops.size → l i = true) → J l ds X → Q .normal (putAll a0 val ds tab) X) :
    ∀ (fuel : Nat) (L : Array Bool) (ds : Nat → Nat) (a : Act) (X : World), L.size = ops.size → L.toList.count false ≤ fuel → InvA a0 tab val (fun i => L.getD i false) ds a → J (fun i => L.getD i false) ds X → wpAny P .any ops Q fuel L a X := by
  have hfit' := hfit
  simp only [rgFits, Bool.and_eq_true] at hfit'
  obtain ⟨⟨hsel, hall⟩, htab⟩ := hfit'
  have hopf : ∀ j o, ops[j]? = some o → opFits tab bs j o = true := fun j o ho => by
    have := List.all_eq_true.1 hall j (by simpa using (Array.getElem?_eq_some_iff.1 ho).1)
    rwa [ho] at this
  -- where nothing is ready, all have come up
  have hdone : ∀ L : Array Bool, L.size = ops.size → Region.ready .any ops L = [] → ∀ i, i < ops.size → L.getD i false = true := by
    intro L hs hr i
    induction i using Nat.strongRecOn with
    | _ i ih =>
      intro hi
      cases hx : L.getD i false with
      | true => rfl
      | false =>
        have hmem : i ∈ Region.ready .any ops L := by
          refine mem_ready.2 ⟨?_, ops[i], Array.getElem?_eq_getElem hi, fun e he hbe => ?_⟩
          · rw [getD_of (by omega)] at hx ⊢; exact hx
          · have := hopf i ops[i] (Array.getElem?_eq_getElem hi)
            simp only [opFits, Bool.and_eq_true] at this
            have h2 := Array.all_eq_true_iff_forall_mem.1 this.1.2 e he
            rw [hbe] at h2
            simp at h2
            exact ih _ h2 (by omega)
        rw [hr] at hmem
        cases hmem
  have hend : ∀ (L : Array Bool) (ds : Nat → Nat) (a : Act) (X : World), L.size = ops.size → Region.ready .any ops L = [] → InvA a0 tab val (fun i => L.getD i false) ds a → J (fun i => L.getD i false) ds X → Q .normal a X := by
    intro L ds a X hs hr hi hJ
    have hd := hdone L hs hr
    rw [hi.fin (fun p hp => by
      have := List.all_eq_true.1 htab _ hp
      rw [Bool.and_eq_true] at this
      have h2 := this.2
      cases hx : ops[p.2]? with
      | none => rw [hx] at h2; cases h2
      | some o => exact hd _ (Array.getElem?_eq_some_iff.1 hx).1)]
    exact hQ _ ds X hd hJ
  intro fuel
  induction fuel with
  | zero =>
    intro L ds a X hs hc hi hJ
    have hr : Region.ready .any ops L = [] := by
      cases hx : Region.ready .any ops L with
      | nil => rfl
      | cons i r =>
        have hm : i ∈ Region.ready .any ops L := by rw [hx]; simp
        obtain ⟨h1, o, ho, _⟩ := mem_ready.1 hm
        have hlt := (Array.getElem?_eq_some_iff.1 ho).1
        rw [getD_of (by omega)] at h1
        have : 0 < L.toList.count false := List.count_pos_iff.2 (by rw [← h1]; simp)
        omega
    exact ⟨hr, hend L ds a X hs hr hi hJ⟩
  | succ fuel ih =>
    intro L ds a X hs hc hi hJ
    refine ⟨fun hr => hend L ds a X hs hr hi hJ, fun j hj => ?_⟩
    obtain ⟨h1, o, ho, he⟩ := mem_ready.1 hj
    have hlt := (Array.getElem?_eq_some_iff.1 ho).1
    rw [getD_of (by omega)] at h1
    have hg := hopf j o ho
    simp only [opFits, Bool.and_eq_true] at hg
    have hgn : o.guard = none := by
      have := hg.1.1.1
      cases hx : o.guard with
      | none => rfl
      | some _ => rw [hx] at this; cases this
    have hw : Region.wanted o (yielded ops a.tmps) = true := by simp [Region.wanted, hgn]
    unfold wpOp
    simp only [ho, hw, if_true]
    refine .inl (rg_step hn hfit hb ho (hC j o ho) (by show L.getD j false = false; rw [getD_of (by omega)]; exact h1) he hi hJ fun ds' a' X' hi' hJ' => ?_)
    have hupd : upd (fun i => L.getD i false) j true = fun i => (L.setIfInBounds j true).getD i false := by
      funext i
      unfold upd
      by_cases hij : i = j
      · subst hij
        rw [if_pos rfl, getD_of (by simp; omega)]
        simp
      · rw [if_neg hij]
        simp [Array.getD_eq_getD_getElem?, Array.getElem?_setIfInBounds_ne (Ne.symm hij)]
    rw [hupd] at hi' hJ'
    refine ih _ ds' a' X' (by simpa using hs) ?_ hi' hJ'
    have := count_set (L := L) (i := j) (by rw [Array.getElem?_eq_getElem (by omega), h1])
    omega
/-- **WHATEVER THE ORDER**: a region that draws its order: each operation is shown once. -/
theorem rg_region {P : Program} {id : Nat} {l : List Oper} {Q : Exit → Act → World → Prop} {a0 : Act} {w : World} (tab : List (Nat × Nat)) (bs : List Nat) (n : Nat) (val : Nat → Nat → Value) (base : Nat → Value) (J : (Nat → Bool) → (Nat → Nat) → World → Prop)
    (hm : P.follows .mixedOrders = true) (hn : a0.tmps.size = n) (hfit : rgFits tab bs n l.toArray = true) (hb : ∀ t ∈ bs, base t = a0.tmps.getD t undef) (hJ : J (fun _ => false) (fun _ => 0) w.drew)
    (hC : AllFrom (OpGives P tab val base J) 0 l) (hQ : ∀ lt ds X, (∀ i, i < l.length → lt i = true) → J lt ds X → Q .normal (putAll a0 val ds tab) X) : (Code.region id l.toArray true).wp P Q a0 w := by
  have hf : (fun i => (Array.replicate l.toArray.size false).getD i false) = fun _ => false := by
    funext i
    by_cases h : i < l.length <;> simp [Array.getD, h]
  refine wp_region_any hm (rg_any (ds := fun _ => 0) hn hfit hb (fun j o ho => ?_) (fun lt ds X h1 h2 => hQ lt ds X (by simpa using h1) h2) _ _ _ _ (by simp) ?_ ?_ ?_)
  · have := hC.get j o (by simpa using ho)
    simpa using this
  · simp
  · rw [hf]
    refine ⟨rfl, rfl, fun t ht => ?_⟩
    rw [Array.getElem?_eq_getElem ht]
    cases List.lookup t tab <;> simp [Array.getD, ht]
  · rw [hf]; exact hJ
end Go.Proofs.YtchoelgkcnnnkaaGreatDoor
