/- WALK: a formula of one operator and two names, and its value (of). -/
import Derived.Test.YtchoelgkcnnnkaaGreatDoorSmB
set_option linter.all false
namespace Go.Proofs.YtchoelgkcnnnkaaGreatDoor
open Go.RowKit
def fmOf (kind : Int) (l : UInt8) : Fm := .bi ⟨kind, 0, ⟨#[]⟩⟩ (.lf ⟨4, 0, ⟨#[l, 49]⟩⟩) (.lf ⟨4, 0, ⟨#[l, 50]⟩⟩)
def OfPost (r : Option Tm) (w : World) (e : Ending) (w' : World) : Prop :=
  (match r with | some v => e = .returned (.tuple #[v.agg, .bool true]) | none => e = .returned (.tuple #[Pl.zeroV.agg, .bool false])) ∧ Below w.heap.size w w'
theorem heap_keep {X Y : World} {d : Nat} {o : Obj} (h : X.heap[d]? = some o) (hb : Below X.heap.size X Y) : Y.heap[d]? = some o :=
  (hb.block _ (Array.getElem?_eq_some_iff.1 h).1).trans h
/-- What is read of two boxes. -/
def Two (n m : Nat) (a b c a' b' c' : Value) (w' : World) : Prop :=
  w'.cell? ⟨n, 0, none⟩ = some a ∧ w'.cell? ⟨n, 1, none⟩ = some b ∧ w'.cell? ⟨n, 2, none⟩ = some c ∧ w'.cell? ⟨m, 0, none⟩ = some a' ∧ w'.cell? ⟨m, 1, none⟩ = some b' ∧ w'.cell? ⟨m, 2, none⟩ = some c'
theorem Two.below {n m : Nat} {a b c a' b' c' : Value} {X Y : World} (h : Two n m a b c a' b' c' X) (hb : Below X.heap.size X Y) : Two n m a b c a' b' c' Y := by
  obtain ⟨h0, h1, h2, h3, h4, h5⟩ := h
  exact ⟨(hb.cell (p := ⟨n, 0, none⟩) (lt_of_cell h0)).trans h0, (hb.cell (p := ⟨n, 1, none⟩) (lt_of_cell h1)).trans h1, (hb.cell (p := ⟨n, 2, none⟩) (lt_of_cell h2)).trans h2, (hb.cell (p := ⟨m, 0, none⟩) (lt_of_cell h3)).trans h3, (hb.cell (p := ⟨m, 1, none⟩) (lt_of_cell h4)).trans h4, (hb.cell (p := ⟨m, 2, none⟩) (lt_of_cell h5)).trans h5⟩
/-- The call's end, in one form for both cases. -/
theorem val_one (r : Option Tm) : ∃ (vk vn : Int) (vs : ByteArray) (vb : Bool), Hid (∀ w e w', ValPost r w e w' → e = .returned (.tuple #[.agg #[.int .i64 vk, .int .i64 vn, .string vs], .bool vb, .int .i64 0]) ∧ Below w.heap.size w w') ∧
    Hid (∀ w w', Below w.heap.size w w' → OfPost r w (.returned (.tuple #[.agg #[.int .i64 vk, .int .i64 vn, .string vs], .bool vb])) w') := by
  cases r with
  | none => exact ⟨0, 0, ⟨#[]⟩, false, Lib.hid fun w e w' h => h, Lib.hid fun w w' h => ⟨rfl, h⟩⟩
  | some v => exact ⟨v.k, v.n, v.s, true, Lib.hid fun w e w' h => h, Lib.hid fun w w' h => ⟨rfl, h⟩⟩
theorem held_start {P : Program} {ops : Array Oper} {Q : Exit → Act → World → Prop} {S : World → Prop} {id : Nat} {a : Act} {w : World} (hm : P.follows .mixedOrders = true) (hS : S w.drew)
    (h : ∀ R : Nat → Array Bool → Act → World → Prop, R = wpAnyH P .any ops Q S → R ops.size (Array.replicate ops.size false) a w.drew) : (Code.region id ops true).wp P Q a w :=
  wp_region_held_drew hm hS (fun _ => h _ rfl)
theorem cast_R {R R' : Nat → Array Bool → Act → World → Prop} (h : R = R') {n : Nat} {l : Array Bool} {a : Act} {w : World} (x : R n l a w) : R' n l a w := h ▸ x
theorem two_set3 {n m : Nat} {a b c a' b' c' : Value} {X : World} (h : Two n m a b c a' b' c' X) {k d : Nat} (hm : m < k) (hd : k ≤ d) (hn : n < k) (v0 v1 v2 : Value) :
    Two n m a b c a' b' c' (((X.setCell ⟨d, 0, none⟩ v0).setCell ⟨d, 1, none⟩ v1).setCell ⟨d, 2, none⟩ v2) := by
  obtain ⟨h0, h1, h2, h3, h4, h5⟩ := h
  have key : ∀ (b i : Nat) (v : Value), b < k → X.cell? ⟨b, i, none⟩ = some v → (((X.setCell ⟨d, 0, none⟩ v0).setCell ⟨d, 1, none⟩ v1).setCell ⟨d, 2, none⟩ v2).cell? ⟨b, i, none⟩ = some v := by
    intro b i v hb hv
    rw [World.cell?_setCell_other _ _ _ _ (fun e => by cases e; omega), World.cell?_setCell_other _ _ _ _ (fun e => by cases e; omega), World.cell?_setCell_other _ _ _ _ (fun e => by cases e; omega)]
    exact hv
  exact ⟨key _ _ _ hn h0, key _ _ _ hn h1, key _ _ _ hn h2, key _ _ _ hm h3, key _ _ _ hm h4, key _ _ _ hm h5⟩
set_option maxRecDepth 100000 in
set_option maxHeartbeats 8000000 in
theorem of_any (kind : Int) (j : Nat) (l : UInt8) (a b : Tm) (w : World) (r : Option Tm) (hj : j < 3) (hl : ([110, 116, 115] : List UInt8)[j]? = some l) (hka : a.k = j + 1) (hkb : b.k = j + 1) (hva : Pl.validV a = true) (hvb : Pl.validV b = true) (hwf : (fmOf kind l).wf) (hty : Pl.ty (fmOf kind l) ≠ 0)
    (hnm : [⟨#[l, 49]⟩, ⟨#[l, 50]⟩] = Pl.namesOf [⟨kind, 0, ⟨#[]⟩⟩, ⟨4, 0, ⟨#[l, 49]⟩⟩, ⟨4, 0, ⟨#[l, 50]⟩⟩]) (HR : Hid (r = Pl.val (Pl.envOf [⟨#[l, 49]⟩, ⟨#[l, 50]⟩] [a, b]) (fmOf kind l))) :
    Calls Tryz.prog 35 #[.int .i64 kind, a.agg, b.agg] w (OfPost r w) := by
  obtain ⟨vk, vn, vs, vb, HV1, HV2⟩ := val_one r
  have HVA := Lib.hid hva
  have HVB := Lib.hid hvb
  have HWF := Lib.hid hwf
  have HTY := Lib.hid hty
  have HNM := Lib.hid hnm
  have hsa := small_of_valid hva
  have hsb := small_of_valid hvb
  obtain ⟨ak, an, sa⟩ := a
  obtain ⟨bk, bn, sb⟩ := b
  simp only at hka hkb
  subst hka hkb
  have hlt : (j : Int) + 1 = Pl.letterT l := by
    match j, hj, hl with
    | 0, _, hl => simp at hl; subst hl; rfl
    | 1, _, hl => simp at hl; subst hl; rfl
    | 2, _, hl => simp at hl; subst hl; rfl
  have HLT := Lib.hid hlt
  have hsa9 : sa.size ≤ 140737488355328 := by have := hsa.2; simp only at this; omega
  have hsb9 : sb.size ≤ 140737488355328 := by have := hsb.2; simp only at this; omega
  unfold Tm.agg
  clear hva hvb hwf hty hnm hsa hsb hlt
  have HOK : Hid (∀ (i : Nat) m x, ([⟨#[l, 49]⟩, ⟨#[l, 50]⟩] : List ByteArray)[i]? = some m → ([⟨(j : Int) + 1, an, sa⟩, ⟨(j : Int) + 1, bn, sb⟩] : List Tm)[i]? = some x → Pl.validV x = true ∧ x.k = Pl.typeOf m.data.toList) := Lib.hid (by
    intro i m x hm hx
    match i, hm, hx with
    | 0, hm, hx => simp at hm hx; subst hm hx; exact ⟨HVA.out, HLT.out⟩
    | 1, hm, hx => simp at hm hx; subst hm hx; exact ⟨HVB.out, HLT.out⟩
    | i + 2, hm, _ => simp at hm)
  have H360 : Hid (3 ≤ 60) := Lib.hid (by omega)
  have HDP : Hid ((fmOf kind l).depth ≤ 12) := Lib.hid (by simp [fmOf, Fm.depth])
  have HSA : Hid (∀ t ∈ ([⟨kind, 0, ⟨#[]⟩⟩, ⟨4, 0, ⟨#[l, 49]⟩⟩, ⟨4, 0, ⟨#[l, 50]⟩⟩] : List Tm), t.s.size ≤ 140737488355328) := Lib.hid (by
    intro t ht; simp at ht; rcases ht with rfl | rfl | rfl <;> first | exact Nat.zero_le _ | (show 2 ≤ 140737488355328; decide))
  have HSB : Hid (∀ t ∈ ([⟨(j : Int) + 1, an, sa⟩, ⟨(j : Int) + 1, bn, sb⟩] : List Tm), t.s.size ≤ 140737488355328) := Lib.hid (by
    intro t ht; simp at ht; rcases ht with rfl | rfl <;> assumption)
  have hj0 : (0 : Int) ≤ j := by omega
  have hj1 : (j : Int) < 3 := by omega
  have hwr : IntKind.i64.wrap ((j : Int) + 1 - 1) = j := by rw [IntKind.wrap_i64]; omega
  have hcl : (#[Value.string ⟨#[110]⟩, Value.string ⟨#[116]⟩, Value.string ⟨#[115]⟩] : Array Value)[j]? = some (.string ⟨#[l]⟩) := by
    match j, hj, hl with
    | 0, _, hl => simp at hl; subst hl; rfl
    | 1, _, hl => simp at hl; subst hl; rfl
    | 2, _, hl => simp at hl; subst hl; rfl
  clear hl
  go_enter Tryz.func35, Tryz.ntmps35
  go_wp2_with fail
  have hidx : ∀ h : j < [Value.string ⟨#[110]⟩, Value.string ⟨#[116]⟩, Value.string ⟨#[115]⟩].length, [Value.string ⟨#[110]⟩, Value.string ⟨#[116]⟩, Value.string ⟨#[115]⟩][j]'h = .string ⟨#[l]⟩ := fun h => by
    have := List.getElem?_eq_getElem h
    rw [Array.getElem?_eq_getElem (by exact h)] at hcl
    simpa using hcl
  simp only [hidx]
  have W5 := world5 w (.cells #[.int .i64 (↑j + 1), .int .i64 an, .string sa] 48) (.cells #[.int .i64 (↑j + 1), .int .i64 bn, .string sb] 48) (.cells #[.int .i64 0, .int .i64 0, .string ⟨#[]⟩] 48) (.cells #[.string ⟨#[110]⟩, .string ⟨#[116]⟩, .string ⟨#[115]⟩] 9) _ rfl
  generalize ((((w.alloc (.cells #[.int .i64 (↑j + 1), .int .i64 an, .string sa] 48)).alloc (.cells #[.int .i64 (↑j + 1), .int .i64 bn, .string sb] 48)).alloc (.cells #[.int .i64 0, .int .i64 0, .string ⟨#[]⟩] 48)).alloc (.cells #[.string ⟨#[110]⟩, .string ⟨#[116]⟩, .string ⟨#[115]⟩] 9)) = w0 at W5 ⊢
  obtain ⟨hs0, a0, b0, c0, _, hb0⟩ := W5
  have HB0 := Lib.hid hb0
  have BR := Lib.hid c0
  obtain ⟨p0, p1, p2, _, _, _⟩ := (show Box3 w0 w.heap.size (.int .i64 (↑j + 1)) (.int .i64 an) (.string sa) 48 from a0).cells
  obtain ⟨q0, q1, q2, _, _, _⟩ := (show Box3 w0 (w.heap.size + 1) (.int .i64 (↑j + 1)) (.int .i64 bn) (.string sb) 48 from b0).cells
  obtain ⟨m0, hm0⟩ : ∃ m0, m0 = w.heap.size := ⟨_, rfl⟩
  rw [← hm0] at p0 p1 p2 q0 q1 q2 hs0 ⊢
  have hm1 : m0 + 1 < w0.heap.size := by omega
  have HM0 := Lib.hid hm0
  have HS0 := Lib.hid hs0
  clear hb0 a0 b0 c0 hcl hidx hm0 hs0
  have hS0 : Two m0 (m0 + 1) (.int .i64 (↑j + 1)) (.int .i64 an) (.string sa) (.int .i64 (↑j + 1)) (.int .i64 bn) (.string sb) w0.drew := ⟨p0, p1, p2, q0, q1, q2⟩
  have hB0d : Below w0.heap.size w0 w0.drew := below_drewN' (Below.refl _ _) 1
  refine held_start (S := Two m0 (m0 + 1) (.int .i64 (↑j + 1)) (.int .i64 an) (.string sa) (.int .i64 (↑j + 1)) (.int .i64 bn) (.string sb)) (by kernel_rfl) hS0 (fun R hR0 => ?_)
  have hR := Lib.hid hR0
  clear hR0
  have st_4_7_8_11_12_17_18 : Hid (∀ (d8 d11 d17 : Nat) (X : World), Two m0 (m0 + 1) (.int .i64 (↑j + 1)) (.int .i64 an) (.string sa) (.int .i64 (↑j + 1)) (.int .i64 bn) (.string sb) X → Below w0.heap.size w0 X → w0.heap.size ≤ d17 → X.cell? ⟨d17, 0, none⟩ = some (.int .i64 vk) → X.cell? ⟨d17, 1, none⟩ = some (.int .i64 vn) → X.cell? ⟨d17, 2, none⟩ = some (.string vs) → R 0 #[true, true, true, true, true, true, true, true, true, true, true, true, true, true, true, true, true, true, true, true, true] { tmps := List.toArray (.int .i64 kind :: .agg #[.int .i64 (↑j + 1), .int .i64 an, .string sa] :: .agg #[.int .i64 (↑j + 1), .int .i64 bn, .string sb] :: undef :: .pointer (some ⟨m0, 0, none⟩) :: .pointer (some ⟨m0 + 1, 0, none⟩) :: .pointer (some ⟨m0 + 1 + 1, 0, none⟩) :: .bool false :: .string ⟨#[l]⟩ :: .pointer (some ⟨d17, 0, none⟩) :: .bool vb :: .int .i64 0 :: .slice (some ⟨m0 + 1 + 1 + 1, 0, none⟩) 3 3 :: .pointer (some ⟨m0, 0, none⟩) :: .int .i64 (↑j + 1) :: .int .i64 ↑j :: .pointer (some ⟨m0 + 1 + 1 + 1, j, none⟩) :: .string ⟨#[l]⟩ :: .tuple #[.agg #[.int .i64 vk, .int .i64 vn, .string vs], .bool vb, .int .i64 0] :: .int .i64 kind :: .agg #[.int .i64 kind, .int .i64 0, .string ⟨#[]⟩] :: .string ⟨#[l]⟩ :: .string ⟨#[l, 49]⟩ :: .agg #[.int .i64 4, .int .i64 0, .string ⟨#[l, 49]⟩] :: .string ⟨#[l]⟩ :: .string ⟨#[l, 50]⟩ :: .agg #[.int .i64 4, .int .i64 0, .string ⟨#[l, 50]⟩] :: .slice (some ⟨d8, 0, none⟩) 3 3 :: .agg #[.int .i64 (↑j + 1), .int .i64 an, .string sa] :: .agg #[.int .i64 (↑j + 1), .int .i64 bn, .string sb] :: .slice (some ⟨d11, 0, none⟩) 2 2 :: .tuple #[.agg #[.int .i64 vk, .int .i64 vn, .string vs], .bool vb, .int .i64 0] :: .agg #[.int .i64 vk, .int .i64 vn, .string vs] :: .bool vb :: .int .i64 0 :: undef :: undef :: undef :: undef :: undef :: undef :: []), defers := [] } X) := by
    refine Lib.hid ?_
    intro d8 d11 d17 X hS hB g17 c0 c1 c2
    rw [hR.out]
    refine wpAnyH_done (by kernel_rfl) ?_ _
    have hbr := Box3.keep (show Box3 w0 (w.heap.size + 1 + 1) (.int .i64 0) (.int .i64 0) (.string ⟨#[]⟩) 48 from BR.out) hB
    rw [← HM0.out] at hbr
    obtain ⟨r0, r1, r2, f0, f1, f2⟩ := hbr.cells
    have hl := hbr.lt
    have HBX := Lib.hid (HB0.out.trans (hB.mono (by have := HS0.out; have := HM0.out; omega)))
    obtain ⟨e0, e1, e2⟩ := set3 r0 r1 r2 (.int .i64 vk) (.int .i64 vn) (.string vs)
    have HE := Lib.hid (And.intro e0 (And.intro e1 e2))
    have hm9 := HM0.out
    have HM9 : Hid (w.heap.size ≤ m0 + 1 + 1) := Lib.hid (by omega)
    clear hbr e0 e1 e2 hS hS0 hm9
    cases vb
    all_goals
      go_wp2_with fail
      obtain ⟨e0, e1, e2⟩ := HE.out
      exact bodyPost_ret (v := .tuple #[.agg #[.int .i64 vk, .int .i64 vn, .string vs], .bool _]) (by simp [results, Tryz.results35, go_sem, e0, e1, e2]) rfl (HV2.out w _ (((HBX.out.setCell (p := ⟨m0 + 1 + 1, 0, none⟩) HM9.out _).setCell (p := ⟨m0 + 1 + 1, 1, none⟩) HM9.out _).setCell (p := ⟨m0 + 1 + 1, 2, none⟩) HM9.out _))
  have st_4_7_8_11_12_17 : Hid (∀ (d8 d11 d17 : Nat) (X : World), Two m0 (m0 + 1) (.int .i64 (↑j + 1)) (.int .i64 an) (.string sa) (.int .i64 (↑j + 1)) (.int .i64 bn) (.string sb) X → Below w0.heap.size w0 X → X.heap[d8]? = some (.cells #[.int .i64 kind, .int .i64 0, .string ⟨#[]⟩, .int .i64 4, .int .i64 0, .string ⟨#[l, 49]⟩, .int .i64 4, .int .i64 0, .string ⟨#[l, 50]⟩] 24 (0, 0)) → X.heap[d11]? = some (.cells #[.int .i64 (↑j + 1), .int .i64 an, .string sa, .int .i64 (↑j + 1), .int .i64 bn, .string sb] 48 (0, 0)) → X.heap[d17]? = some (.cells #[.int .i64 0, .int .i64 0, .string ⟨#[]⟩] 48 (0, 0)) → w0.heap.size ≤ d17 → R 3 #[true, true, true, true, true, true, true, true, true, true, true, true, true, true, true, true, true, true, false, false, false] { tmps := List.toArray (.int .i64 kind :: .agg #[.int .i64 (↑j + 1), .int .i64 an, .string sa] :: .agg #[.int .i64 (↑j + 1), .int .i64 bn, .string sb] :: undef :: .pointer (some ⟨m0, 0, none⟩) :: .pointer (some ⟨m0 + 1, 0, none⟩) :: .pointer (some ⟨m0 + 1 + 1, 0, none⟩) :: .bool false :: .string ⟨#[l]⟩ :: .pointer (some ⟨d17, 0, none⟩) :: undef :: undef :: .slice (some ⟨m0 + 1 + 1 + 1, 0, none⟩) 3 3 :: .pointer (some ⟨m0, 0, none⟩) :: .int .i64 (↑j + 1) :: .int .i64 ↑j :: .pointer (some ⟨m0 + 1 + 1 + 1, j, none⟩) :: .string ⟨#[l]⟩ :: .tuple #[.agg #[.int .i64 vk, .int .i64 vn, .string vs], .bool vb, .int .i64 0] :: .int .i64 kind :: .agg #[.int .i64 kind, .int .i64 0, .string ⟨#[]⟩] :: .string ⟨#[l]⟩ :: .string ⟨#[l, 49]⟩ :: .agg #[.int .i64 4, .int .i64 0, .string ⟨#[l, 49]⟩] :: .string ⟨#[l]⟩ :: .string ⟨#[l, 50]⟩ :: .agg #[.int .i64 4, .int .i64 0, .string ⟨#[l, 50]⟩] :: .slice (some ⟨d8, 0, none⟩) 3 3 :: .agg #[.int .i64 (↑j + 1), .int .i64 an, .string sa] :: .agg #[.int .i64 (↑j + 1), .int .i64 bn, .string sb] :: .slice (some ⟨d11, 0, none⟩) 2 2 :: .tuple #[.agg #[.int .i64 vk, .int .i64 vn, .string vs], .bool vb, .int .i64 0] :: .agg #[.int .i64 vk, .int .i64 vn, .string vs] :: .bool vb :: .int .i64 0 :: undef :: undef :: undef :: undef :: undef :: undef :: []), defers := [] } X) := by
    refine Lib.hid ?_
    intro d8 d11 d17 X hS hB h8 h11 h17 g17
    rw [hR.out]
    refine wpAnyH_ready (rs := [18]) (by kernel_rfl) (by simp) ?_
    refine AllReadyH.cons rfl (fun K hK => ?_) ?_
    · simp only [List.getElem_toArray, List.getElem_cons_zero, List.getElem_cons_succ]
      obtain ⟨z0, z1, z2, y0, y1, y2⟩ := Box3.cells h17
      go_simp
      obtain ⟨e0, e1, e2⟩ := set3 z0 z1 z2 (.int .i64 vk) (.int .i64 vn) (.string vs)
      have hS2 := two_set3 hS hm1 g17 (by omega) (.int .i64 vk) (.int .i64 vn) (.string vs)
      have hB2 := ((hB.setCell (p := ⟨d17, 0, none⟩) g17 (.int .i64 vk)).setCell (p := ⟨d17, 1, none⟩) g17 (.int .i64 vn)).setCell (p := ⟨d17, 2, none⟩) g17 (.string vs)
      refine hK.out _ _ hS2 (fun hS => ?_)
      clear hK K
      try simp only [Act.put, List.setIfInBounds_toArray, List.set_cons_zero, List.set_cons_succ]
      refine wpAnyH_take (i := 19) (v := .bool vb) rfl (by kernel_rfl) (by kernel_rfl) (by kernel_rfl) (fun _ _ _ h => h) (Or.inl ⟨by rfl, ?_⟩) hS ?_
      · intro w' hSw
        obtain ⟨q0, q1, q2, q3, q4, q5⟩ := hSw
        simp only [List.getElem_toArray, List.getElem_cons_zero, List.getElem_cons_succ]
        first | (go_simp; done) | (go_simp; rfl)
      try simp only [Act.put, List.setIfInBounds_toArray, List.set_cons_zero, List.set_cons_succ]
      refine wpAnyH_take (i := 20) (v := .int .i64 0) rfl (by kernel_rfl) (by kernel_rfl) (by kernel_rfl) (fun _ _ _ h => h) (Or.inl ⟨by rfl, ?_⟩) hS ?_
      · intro w' hSw
        obtain ⟨q0, q1, q2, q3, q4, q5⟩ := hSw
        simp only [List.getElem_toArray, List.getElem_cons_zero, List.getElem_cons_succ]
        first | (go_simp; done) | (go_simp; rfl)
      try simp only [Act.put, List.setIfInBounds_toArray, List.set_cons_zero, List.set_cons_succ]
      exact cast_R hR.out (st_4_7_8_11_12_17_18.out d8 d11 d17 _ hS2 hB2 g17 e0 e1 e2)
    exact AllReadyH.nil
  have st_4_7_8_11_12 : Hid (∀ (d8 d11 : Nat) (X : World), Two m0 (m0 + 1) (.int .i64 (↑j + 1)) (.int .i64 an) (.string sa) (.int .i64 (↑j + 1)) (.int .i64 bn) (.string sb) X → Below w0.heap.size w0 X → X.heap[d8]? = some (.cells #[.int .i64 kind, .int .i64 0, .string ⟨#[]⟩, .int .i64 4, .int .i64 0, .string ⟨#[l, 49]⟩, .int .i64 4, .int .i64 0, .string ⟨#[l, 50]⟩] 24 (0, 0)) → X.heap[d11]? = some (.cells #[.int .i64 (↑j + 1), .int .i64 an, .string sa, .int .i64 (↑j + 1), .int .i64 bn, .string sb] 48 (0, 0)) → R 4 #[true, true, true, true, true, true, true, true, true, true, true, true, true, true, true, true, true, false, false, false, false] { tmps := List.toArray (.int .i64 kind :: .agg #[.int .i64 (↑j + 1), .int .i64 an, .string sa] :: .agg #[.int .i64 (↑j + 1), .int .i64 bn, .string sb] :: undef :: .pointer (some ⟨m0, 0, none⟩) :: .pointer (some ⟨m0 + 1, 0, none⟩) :: .pointer (some ⟨m0 + 1 + 1, 0, none⟩) :: .bool false :: .string ⟨#[l]⟩ :: undef :: undef :: undef :: .slice (some ⟨m0 + 1 + 1 + 1, 0, none⟩) 3 3 :: .pointer (some ⟨m0, 0, none⟩) :: .int .i64 (↑j + 1) :: .int .i64 ↑j :: .pointer (some ⟨m0 + 1 + 1 + 1, j, none⟩) :: .string ⟨#[l]⟩ :: .tuple #[.agg #[.int .i64 vk, .int .i64 vn, .string vs], .bool vb, .int .i64 0] :: .int .i64 kind :: .agg #[.int .i64 kind, .int .i64 0, .string ⟨#[]⟩] :: .string ⟨#[l]⟩ :: .string ⟨#[l, 49]⟩ :: .agg #[.int .i64 4, .int .i64 0, .string ⟨#[l, 49]⟩] :: .string ⟨#[l]⟩ :: .string ⟨#[l, 50]⟩ :: .agg #[.int .i64 4, .int .i64 0, .string ⟨#[l, 50]⟩] :: .slice (some ⟨d8, 0, none⟩) 3 3 :: .agg #[.int .i64 (↑j + 1), .int .i64 an, .string sa] :: .agg #[.int .i64 (↑j + 1), .int .i64 bn, .string sb] :: .slice (some ⟨d11, 0, none⟩) 2 2 :: .tuple #[.agg #[.int .i64 vk, .int .i64 vn, .string vs], .bool vb, .int .i64 0] :: .agg #[.int .i64 vk, .int .i64 vn, .string vs] :: .bool vb :: .int .i64 0 :: undef :: undef :: undef :: undef :: undef :: undef :: []), defers := [] } X) := by
    refine Lib.hid ?_
    intro d8 d11 X hS hB h8 h11
    rw [hR.out]
    refine wpAnyH_ready (rs := [17]) (by kernel_rfl) (by simp) ?_
    refine AllReadyH.cons rfl (fun K hK => ?_) ?_
    · simp only [List.getElem_toArray, List.getElem_cons_zero, List.getElem_cons_succ]
      go_simp
      refine hK.out _ _ (hS.below (below1 _ _)) (fun hS => ?_)
      clear hK K
      try simp only [Act.put, List.setIfInBounds_toArray, List.set_cons_zero, List.set_cons_succ]
      exact cast_R hR.out (st_4_7_8_11_12_17.out d8 d11 X.heap.size _ hS (hB.trans ((below1 _ _).mono hB.size)) (heap_keep h8 (below1 _ _)) (heap_keep h11 (below1 _ _)) (MapKept.heap_alloc _ _).1 hB.size)
    exact AllReadyH.nil
  have st_4_7_8_11_17 : Hid (∀ (d8 d11 d17 : Nat) (X : World), Two m0 (m0 + 1) (.int .i64 (↑j + 1)) (.int .i64 an) (.string sa) (.int .i64 (↑j + 1)) (.int .i64 bn) (.string sb) X → Below w0.heap.size w0 X → X.heap[d8]? = some (.cells #[.int .i64 kind, .int .i64 0, .string ⟨#[]⟩, .int .i64 4, .int .i64 0, .string ⟨#[l, 49]⟩, .int .i64 4, .int .i64 0, .string ⟨#[l, 50]⟩] 24 (0, 0)) → X.heap[d11]? = some (.cells #[.int .i64 (↑j + 1), .int .i64 an, .string sa, .int .i64 (↑j + 1), .int .i64 bn, .string sb] 48 (0, 0)) → X.heap[d17]? = some (.cells #[.int .i64 0, .int .i64 0, .string ⟨#[]⟩] 48 (0, 0)) → w0.heap.size ≤ d17 → R 8 #[true, true, true, true, true, true, true, true, true, true, true, true, false, false, false, false, false, true, false, false, false] { tmps := List.toArray (.int .i64 kind :: .agg #[.int .i64 (↑j + 1), .int .i64 an, .string sa] :: .agg #[.int .i64 (↑j + 1), .int .i64 bn, .string sb] :: undef :: .pointer (some ⟨m0, 0, none⟩) :: .pointer (some ⟨m0 + 1, 0, none⟩) :: .pointer (some ⟨m0 + 1 + 1, 0, none⟩) :: .bool false :: .string ⟨#[l]⟩ :: .pointer (some ⟨d17, 0, none⟩) :: undef :: undef :: .slice (some ⟨m0 + 1 + 1 + 1, 0, none⟩) 3 3 :: .pointer (some ⟨m0, 0, none⟩) :: .int .i64 (↑j + 1) :: .int .i64 ↑j :: .pointer (some ⟨m0 + 1 + 1 + 1, j, none⟩) :: .string ⟨#[l]⟩ :: undef :: .int .i64 kind :: .agg #[.int .i64 kind, .int .i64 0, .string ⟨#[]⟩] :: .string ⟨#[l]⟩ :: .string ⟨#[l, 49]⟩ :: .agg #[.int .i64 4, .int .i64 0, .string ⟨#[l, 49]⟩] :: .string ⟨#[l]⟩ :: .string ⟨#[l, 50]⟩ :: .agg #[.int .i64 4, .int .i64 0, .string ⟨#[l, 50]⟩] :: .slice (some ⟨d8, 0, none⟩) 3 3 :: .agg #[.int .i64 (↑j + 1), .int .i64 an, .string sa] :: .agg #[.int .i64 (↑j + 1), .int .i64 bn, .string sb] :: .slice (some ⟨d11, 0, none⟩) 2 2 :: undef :: undef :: undef :: undef :: undef :: undef :: undef :: undef :: undef :: undef :: []), defers := [] } X) := by
    refine Lib.hid ?_
    intro d8 d11 d17 X hS hB h8 h11 h17 g17
    rw [hR.out]
    refine wpAnyH_ready (rs := [12]) (by kernel_rfl) (by simp) ?_
    refine AllReadyH.cons rfl (fun K hK => ?_) ?_
    · simp only [List.getElem_toArray, List.getElem_cons_zero, List.getElem_cons_succ]
      have rA := rowIn_block (T := 24) (ts := [⟨kind, 0, ⟨#[]⟩⟩, ⟨4, 0, ⟨#[l, 49]⟩⟩, ⟨4, 0, ⟨#[l, 50]⟩⟩]) rfl h8 HSA.out
      have rB := rowIn_block (T := 48) (ts := [⟨(j : Int) + 1, an, sa⟩, ⟨(j : Int) + 1, bn, sb⟩]) rfl h11 HSB.out
      have hv := Lib.hid (value_use (fmOf kind l) [⟨kind, 0, ⟨#[]⟩⟩, ⟨4, 0, ⟨#[l, 49]⟩⟩, ⟨4, 0, ⟨#[l, 50]⟩⟩] rfl [⟨(j : Int) + 1, an, sa⟩, ⟨(j : Int) + 1, bn, sb⟩] [⟨#[l, 49]⟩, ⟨#[l, 50]⟩] HNM.out d8 0 3 3 d11 0 2 2 rfl rfl X rA (Nat.le_refl _) rB (Nat.le_refl _) HWF.out H360.out HDP.out HTY.out rfl HOK.out r HR)
      clear rA rB
      go_simp
      go_at_call 28
      refine hv.out.mono ?_
      rintro e Y hV
      obtain ⟨rfl, hbY⟩ := HV1.out _ _ _ hV
      clear hV hv
      show K _ _
      refine hK.out _ _ (hS.below hbY) (fun hS => ?_)
      clear hK K
      try simp only [Act.put, List.setIfInBounds_toArray, List.set_cons_zero, List.set_cons_succ]
      refine wpAnyH_take (i := 13) (v := .tuple #[.agg #[.int .i64 vk, .int .i64 vn, .string vs], .bool vb, .int .i64 0]) rfl (by kernel_rfl) (by kernel_rfl) (by kernel_rfl) (fun _ _ _ h => h) (Or.inl ⟨by rfl, ?_⟩) hS ?_
      · intro w' hSw
        obtain ⟨q0, q1, q2, q3, q4, q5⟩ := hSw
        simp only [List.getElem_toArray, List.getElem_cons_zero, List.getElem_cons_succ]
        first | (go_simp; done) | (go_simp; rfl)
      try simp only [Act.put, List.setIfInBounds_toArray, List.set_cons_zero, List.set_cons_succ]
      refine wpAnyH_take (i := 14) (v := .agg #[.int .i64 vk, .int .i64 vn, .string vs]) rfl (by kernel_rfl) (by kernel_rfl) (by kernel_rfl) (fun _ _ _ h => h) (Or.inl ⟨by rfl, ?_⟩) hS ?_
      · intro w' hSw
        obtain ⟨q0, q1, q2, q3, q4, q5⟩ := hSw
        simp only [List.getElem_toArray, List.getElem_cons_zero, List.getElem_cons_succ]
        first | (go_simp; done) | (go_simp; rfl)
      try simp only [Act.put, List.setIfInBounds_toArray, List.set_cons_zero, List.set_cons_succ]
      refine wpAnyH_take (i := 15) (v := .bool vb) rfl (by kernel_rfl) (by kernel_rfl) (by kernel_rfl) (fun _ _ _ h => h) (Or.inl ⟨by rfl, ?_⟩) hS ?_
      · intro w' hSw
        obtain ⟨q0, q1, q2, q3, q4, q5⟩ := hSw
        simp only [List.getElem_toArray, List.getElem_cons_zero, List.getElem_cons_succ]
        first | (go_simp; done) | (go_simp; rfl)
      try simp only [Act.put, List.setIfInBounds_toArray, List.set_cons_zero, List.set_cons_succ]
      refine wpAnyH_take (i := 16) (v := .int .i64 0) rfl (by kernel_rfl) (by kernel_rfl) (by kernel_rfl) (fun _ _ _ h => h) (Or.inl ⟨by rfl, ?_⟩) hS ?_
      · intro w' hSw
        obtain ⟨q0, q1, q2, q3, q4, q5⟩ := hSw
        simp only [List.getElem_toArray, List.getElem_cons_zero, List.getElem_cons_succ]
        first | (go_simp; done) | (go_simp; rfl)
      try simp only [Act.put, List.setIfInBounds_toArray, List.set_cons_zero, List.set_cons_succ]
      exact cast_R hR.out (st_4_7_8_11_12_17.out d8 d11 d17 _ hS (hB.trans (hbY.mono hB.size)) (heap_keep h8 hbY) (heap_keep h11 hbY) (heap_keep h17 hbY) g17)
    exact AllReadyH.nil
  have st_4_7_8_11 : Hid (∀ (d8 d11 : Nat) (X : World), Two m0 (m0 + 1) (.int .i64 (↑j + 1)) (.int .i64 an) (.string sa) (.int .i64 (↑j + 1)) (.int .i64 bn) (.string sb) X → Below w0.heap.size w0 X → X.heap[d8]? = some (.cells #[.int .i64 kind, .int .i64 0, .string ⟨#[]⟩, .int .i64 4, .int .i64 0, .string ⟨#[l, 49]⟩, .int .i64 4, .int .i64 0, .string ⟨#[l, 50]⟩] 24 (0, 0)) → X.heap[d11]? = some (.cells #[.int .i64 (↑j + 1), .int .i64 an, .string sa, .int .i64 (↑j + 1), .int .i64 bn, .string sb] 48 (0, 0)) → R 9 #[true, true, true, true, true, true, true, true, true, true, true, true, false, false, false, false, false, false, false, false, false] { tmps := List.toArray (.int .i64 kind :: .agg #[.int .i64 (↑j + 1), .int .i64 an, .string sa] :: .agg #[.int .i64 (↑j + 1), .int .i64 bn, .string sb] :: undef :: .pointer (some ⟨m0, 0, none⟩) :: .pointer (some ⟨m0 + 1, 0, none⟩) :: .pointer (some ⟨m0 + 1 + 1, 0, none⟩) :: .bool false :: .string ⟨#[l]⟩ :: undef :: undef :: undef :: .slice (some ⟨m0 + 1 + 1 + 1, 0, none⟩) 3 3 :: .pointer (some ⟨m0, 0, none⟩) :: .int .i64 (↑j + 1) :: .int .i64 ↑j :: .pointer (some ⟨m0 + 1 + 1 + 1, j, none⟩) :: .string ⟨#[l]⟩ :: undef :: .int .i64 kind :: .agg #[.int .i64 kind, .int .i64 0, .string ⟨#[]⟩] :: .string ⟨#[l]⟩ :: .string ⟨#[l, 49]⟩ :: .agg #[.int .i64 4, .int .i64 0, .string ⟨#[l, 49]⟩] :: .string ⟨#[l]⟩ :: .string ⟨#[l, 50]⟩ :: .agg #[.int .i64 4, .int .i64 0, .string ⟨#[l, 50]⟩] :: .slice (some ⟨d8, 0, none⟩) 3 3 :: .agg #[.int .i64 (↑j + 1), .int .i64 an, .string sa] :: .agg #[.int .i64 (↑j + 1), .int .i64 bn, .string sb] :: .slice (some ⟨d11, 0, none⟩) 2 2 :: undef :: undef :: undef :: undef :: undef :: undef :: undef :: undef :: undef :: undef :: []), defers := [] } X) := by
    refine Lib.hid ?_
    intro d8 d11 X hS hB h8 h11
    rw [hR.out]
    refine wpAnyH_ready (rs := [12, 17]) (by kernel_rfl) (by simp) ?_
    refine AllReadyH.cons rfl (fun K hK => ?_) ?_
    · simp only [List.getElem_toArray, List.getElem_cons_zero, List.getElem_cons_succ]
      have rA := rowIn_block (T := 24) (ts := [⟨kind, 0, ⟨#[]⟩⟩, ⟨4, 0, ⟨#[l, 49]⟩⟩, ⟨4, 0, ⟨#[l, 50]⟩⟩]) rfl h8 HSA.out
      have rB := rowIn_block (T := 48) (ts := [⟨(j : Int) + 1, an, sa⟩, ⟨(j : Int) + 1, bn, sb⟩]) rfl h11 HSB.out
      have hv := Lib.hid (value_use (fmOf kind l) [⟨kind, 0, ⟨#[]⟩⟩, ⟨4, 0, ⟨#[l, 49]⟩⟩, ⟨4, 0, ⟨#[l, 50]⟩⟩] rfl [⟨(j : Int) + 1, an, sa⟩, ⟨(j : Int) + 1, bn, sb⟩] [⟨#[l, 49]⟩, ⟨#[l, 50]⟩] HNM.out d8 0 3 3 d11 0 2 2 rfl rfl X rA (Nat.le_refl _) rB (Nat.le_refl _) HWF.out H360.out HDP.out HTY.out rfl HOK.out r HR)
      clear rA rB
      go_simp
      go_at_call 28
      refine hv.out.mono ?_
      rintro e Y hV
      obtain ⟨rfl, hbY⟩ := HV1.out _ _ _ hV
      clear hV hv
      show K _ _
      refine hK.out _ _ (hS.below hbY) (fun hS => ?_)
      clear hK K
      try simp only [Act.put, List.setIfInBounds_toArray, List.set_cons_zero, List.set_cons_succ]
      refine wpAnyH_take (i := 13) (v := .tuple #[.agg #[.int .i64 vk, .int .i64 vn, .string vs], .bool vb, .int .i64 0]) rfl (by kernel_rfl) (by kernel_rfl) (by kernel_rfl) (fun _ _ _ h => h) (Or.inl ⟨by rfl, ?_⟩) hS ?_
      · intro w' hSw
        obtain ⟨q0, q1, q2, q3, q4, q5⟩ := hSw
        simp only [List.getElem_toArray, List.getElem_cons_zero, List.getElem_cons_succ]
        first | (go_simp; done) | (go_simp; rfl)
      try simp only [Act.put, List.setIfInBounds_toArray, List.set_cons_zero, List.set_cons_succ]
      refine wpAnyH_take (i := 14) (v := .agg #[.int .i64 vk, .int .i64 vn, .string vs]) rfl (by kernel_rfl) (by kernel_rfl) (by kernel_rfl) (fun _ _ _ h => h) (Or.inl ⟨by rfl, ?_⟩) hS ?_
      · intro w' hSw
        obtain ⟨q0, q1, q2, q3, q4, q5⟩ := hSw
        simp only [List.getElem_toArray, List.getElem_cons_zero, List.getElem_cons_succ]
        first | (go_simp; done) | (go_simp; rfl)
      try simp only [Act.put, List.setIfInBounds_toArray, List.set_cons_zero, List.set_cons_succ]
      refine wpAnyH_take (i := 15) (v := .bool vb) rfl (by kernel_rfl) (by kernel_rfl) (by kernel_rfl) (fun _ _ _ h => h) (Or.inl ⟨by rfl, ?_⟩) hS ?_
      · intro w' hSw
        obtain ⟨q0, q1, q2, q3, q4, q5⟩ := hSw
        simp only [List.getElem_toArray, List.getElem_cons_zero, List.getElem_cons_succ]
        first | (go_simp; done) | (go_simp; rfl)
      try simp only [Act.put, List.setIfInBounds_toArray, List.set_cons_zero, List.set_cons_succ]
      refine wpAnyH_take (i := 16) (v := .int .i64 0) rfl (by kernel_rfl) (by kernel_rfl) (by kernel_rfl) (fun _ _ _ h => h) (Or.inl ⟨by rfl, ?_⟩) hS ?_
      · intro w' hSw
        obtain ⟨q0, q1, q2, q3, q4, q5⟩ := hSw
        simp only [List.getElem_toArray, List.getElem_cons_zero, List.getElem_cons_succ]
        first | (go_simp; done) | (go_simp; rfl)
      try simp only [Act.put, List.setIfInBounds_toArray, List.set_cons_zero, List.set_cons_succ]
      exact cast_R hR.out (st_4_7_8_11_12.out d8 d11 _ hS (hB.trans (hbY.mono hB.size)) (heap_keep h8 hbY) (heap_keep h11 hbY))
    refine AllReadyH.cons rfl (fun K hK => ?_) ?_
    · simp only [List.getElem_toArray, List.getElem_cons_zero, List.getElem_cons_succ]
      go_simp
      refine hK.out _ _ (hS.below (below1 _ _)) (fun hS => ?_)
      clear hK K
      try simp only [Act.put, List.setIfInBounds_toArray, List.set_cons_zero, List.set_cons_succ]
      exact cast_R hR.out (st_4_7_8_11_17.out d8 d11 X.heap.size _ hS (hB.trans ((below1 _ _).mono hB.size)) (heap_keep h8 (below1 _ _)) (heap_keep h11 (below1 _ _)) (MapKept.heap_alloc _ _).1 hB.size)
    exact AllReadyH.nil
  have st_4_7_8_17 : Hid (∀ (d8 d17 : Nat) (X : World), Two m0 (m0 + 1) (.int .i64 (↑j + 1)) (.int .i64 an) (.string sa) (.int .i64 (↑j + 1)) (.int .i64 bn) (.string sb) X → Below w0.heap.size w0 X → X.heap[d8]? = some (.cells #[.int .i64 kind, .int .i64 0, .string ⟨#[]⟩, .int .i64 4, .int .i64 0, .string ⟨#[l, 49]⟩, .int .i64 4, .int .i64 0, .string ⟨#[l, 50]⟩] 24 (0, 0)) → X.heap[d17]? = some (.cells #[.int .i64 0, .int .i64 0, .string ⟨#[]⟩] 48 (0, 0)) → w0.heap.size ≤ d17 → R 9 #[true, true, true, true, true, true, true, true, true, true, true, false, false, false, false, false, false, true, false, false, false] { tmps := List.toArray (.int .i64 kind :: .agg #[.int .i64 (↑j + 1), .int .i64 an, .string sa] :: .agg #[.int .i64 (↑j + 1), .int .i64 bn, .string sb] :: undef :: .pointer (some ⟨m0, 0, none⟩) :: .pointer (some ⟨m0 + 1, 0, none⟩) :: .pointer (some ⟨m0 + 1 + 1, 0, none⟩) :: .bool false :: .string ⟨#[l]⟩ :: .pointer (some ⟨d17, 0, none⟩) :: undef :: undef :: .slice (some ⟨m0 + 1 + 1 + 1, 0, none⟩) 3 3 :: .pointer (some ⟨m0, 0, none⟩) :: .int .i64 (↑j + 1) :: .int .i64 ↑j :: .pointer (some ⟨m0 + 1 + 1 + 1, j, none⟩) :: .string ⟨#[l]⟩ :: undef :: .int .i64 kind :: .agg #[.int .i64 kind, .int .i64 0, .string ⟨#[]⟩] :: .string ⟨#[l]⟩ :: .string ⟨#[l, 49]⟩ :: .agg #[.int .i64 4, .int .i64 0, .string ⟨#[l, 49]⟩] :: .string ⟨#[l]⟩ :: .string ⟨#[l, 50]⟩ :: .agg #[.int .i64 4, .int .i64 0, .string ⟨#[l, 50]⟩] :: .slice (some ⟨d8, 0, none⟩) 3 3 :: .agg #[.int .i64 (↑j + 1), .int .i64 an, .string sa] :: .agg #[.int .i64 (↑j + 1), .int .i64 bn, .string sb] :: undef :: undef :: undef :: undef :: undef :: undef :: undef :: undef :: undef :: undef :: undef :: []), defers := [] } X) := by
    refine Lib.hid ?_
    intro d8 d17 X hS hB h8 h17 g17
    rw [hR.out]
    refine wpAnyH_ready (rs := [11]) (by kernel_rfl) (by simp) ?_
    refine AllReadyH.cons rfl (fun K hK => ?_) ?_
    · simp only [List.getElem_toArray, List.getElem_cons_zero, List.getElem_cons_succ]
      go_simp
      refine hK.out _ _ (hS.below (below1 _ _)) (fun hS => ?_)
      clear hK K
      try simp only [Act.put, List.setIfInBounds_toArray, List.set_cons_zero, List.set_cons_succ]
      exact cast_R hR.out (st_4_7_8_11_17.out d8 X.heap.size d17 _ hS (hB.trans ((below1 _ _).mono hB.size)) (heap_keep h8 (below1 _ _)) (MapKept.heap_alloc _ _).1 (heap_keep h17 (below1 _ _)) g17)
    exact AllReadyH.nil
  have st_4_7_11_17 : Hid (∀ (d11 d17 : Nat) (X : World), Two m0 (m0 + 1) (.int .i64 (↑j + 1)) (.int .i64 an) (.string sa) (.int .i64 (↑j + 1)) (.int .i64 bn) (.string sb) X → Below w0.heap.size w0 X → X.heap[d11]? = some (.cells #[.int .i64 (↑j + 1), .int .i64 an, .string sa, .int .i64 (↑j + 1), .int .i64 bn, .string sb] 48 (0, 0)) → X.heap[d17]? = some (.cells #[.int .i64 0, .int .i64 0, .string ⟨#[]⟩] 48 (0, 0)) → w0.heap.size ≤ d17 → R 9 #[true, true, true, true, true, true, true, true, false, true, true, true, false, false, false, false, false, true, false, false, false] { tmps := List.toArray (.int .i64 kind :: .agg #[.int .i64 (↑j + 1), .int .i64 an, .string sa] :: .agg #[.int .i64 (↑j + 1), .int .i64 bn, .string sb] :: undef :: .pointer (some ⟨m0, 0, none⟩) :: .pointer (some ⟨m0 + 1, 0, none⟩) :: .pointer (some ⟨m0 + 1 + 1, 0, none⟩) :: .bool false :: .string ⟨#[l]⟩ :: .pointer (some ⟨d17, 0, none⟩) :: undef :: undef :: .slice (some ⟨m0 + 1 + 1 + 1, 0, none⟩) 3 3 :: .pointer (some ⟨m0, 0, none⟩) :: .int .i64 (↑j + 1) :: .int .i64 ↑j :: .pointer (some ⟨m0 + 1 + 1 + 1, j, none⟩) :: .string ⟨#[l]⟩ :: undef :: .int .i64 kind :: .agg #[.int .i64 kind, .int .i64 0, .string ⟨#[]⟩] :: .string ⟨#[l]⟩ :: .string ⟨#[l, 49]⟩ :: .agg #[.int .i64 4, .int .i64 0, .string ⟨#[l, 49]⟩] :: .string ⟨#[l]⟩ :: .string ⟨#[l, 50]⟩ :: .agg #[.int .i64 4, .int .i64 0, .string ⟨#[l, 50]⟩] :: undef :: .agg #[.int .i64 (↑j + 1), .int .i64 an, .string sa] :: .agg #[.int .i64 (↑j + 1), .int .i64 bn, .string sb] :: .slice (some ⟨d11, 0, none⟩) 2 2 :: undef :: undef :: undef :: undef :: undef :: undef :: undef :: undef :: undef :: undef :: []), defers := [] } X) := by
    refine Lib.hid ?_
    intro d11 d17 X hS hB h11 h17 g17
    rw [hR.out]
    refine wpAnyH_ready (rs := [8]) (by kernel_rfl) (by simp) ?_
    refine AllReadyH.cons rfl (fun K hK => ?_) ?_
    · simp only [List.getElem_toArray, List.getElem_cons_zero, List.getElem_cons_succ]
      go_simp
      refine hK.out _ _ (hS.below (below1 _ _)) (fun hS => ?_)
      clear hK K
      try simp only [Act.put, List.setIfInBounds_toArray, List.set_cons_zero, List.set_cons_succ]
      exact cast_R hR.out (st_4_7_8_11_17.out X.heap.size d11 d17 _ hS (hB.trans ((below1 _ _).mono hB.size)) (MapKept.heap_alloc _ _).1 (heap_keep h11 (below1 _ _)) (heap_keep h17 (below1 _ _)) g17)
    exact AllReadyH.nil
  have st_4_7_8 : Hid (∀ (d8 : Nat) (X : World), Two m0 (m0 + 1) (.int .i64 (↑j + 1)) (.int .i64 an) (.string sa) (.int .i64 (↑j + 1)) (.int .i64 bn) (.string sb) X → Below w0.heap.size w0 X → X.heap[d8]? = some (.cells #[.int .i64 kind, .int .i64 0, .string ⟨#[]⟩, .int .i64 4, .int .i64 0, .string ⟨#[l, 49]⟩, .int .i64 4, .int .i64 0, .string ⟨#[l, 50]⟩] 24 (0, 0)) → R 10 #[true, true, true, true, true, true, true, true, true, true, true, false, false, false, false, false, false, false, false, false, false] { tmps := List.toArray (.int .i64 kind :: .agg #[.int .i64 (↑j + 1), .int .i64 an, .string sa] :: .agg #[.int .i64 (↑j + 1), .int .i64 bn, .string sb] :: undef :: .pointer (some ⟨m0, 0, none⟩) :: .pointer (some ⟨m0 + 1, 0, none⟩) :: .pointer (some ⟨m0 + 1 + 1, 0, none⟩) :: .bool false :: .string ⟨#[l]⟩ :: undef :: undef :: undef :: .slice (some ⟨m0 + 1 + 1 + 1, 0, none⟩) 3 3 :: .pointer (some ⟨m0, 0, none⟩) :: .int .i64 (↑j + 1) :: .int .i64 ↑j :: .pointer (some ⟨m0 + 1 + 1 + 1, j, none⟩) :: .string ⟨#[l]⟩ :: undef :: .int .i64 kind :: .agg #[.int .i64 kind, .int .i64 0, .string ⟨#[]⟩] :: .string ⟨#[l]⟩ :: .string ⟨#[l, 49]⟩ :: .agg #[.int .i64 4, .int .i64 0, .string ⟨#[l, 49]⟩] :: .string ⟨#[l]⟩ :: .string ⟨#[l, 50]⟩ :: .agg #[.int .i64 4, .int .i64 0, .string ⟨#[l, 50]⟩] :: .slice (some ⟨d8, 0, none⟩) 3 3 :: .agg #[.int .i64 (↑j + 1), .int .i64 an, .string sa] :: .agg #[.int .i64 (↑j + 1), .int .i64 bn, .string sb] :: undef :: undef :: undef :: undef :: undef :: undef :: undef :: undef :: undef :: undef :: undef :: []), defers := [] } X) := by
    refine Lib.hid ?_
    intro d8 X hS hB h8
    rw [hR.out]
    refine wpAnyH_ready (rs := [11, 17]) (by kernel_rfl) (by simp) ?_
    refine AllReadyH.cons rfl (fun K hK => ?_) ?_
    · simp only [List.getElem_toArray, List.getElem_cons_zero, List.getElem_cons_succ]
      go_simp
      refine hK.out _ _ (hS.below (below1 _ _)) (fun hS => ?_)
      clear hK K
      try simp only [Act.put, List.setIfInBounds_toArray, List.set_cons_zero, List.set_cons_succ]
      exact cast_R hR.out (st_4_7_8_11.out d8 X.heap.size _ hS (hB.trans ((below1 _ _).mono hB.size)) (heap_keep h8 (below1 _ _)) (MapKept.heap_alloc _ _).1)
    refine AllReadyH.cons rfl (fun K hK => ?_) ?_
    · simp only [List.getElem_toArray, List.getElem_cons_zero, List.getElem_cons_succ]
      go_simp
      refine hK.out _ _ (hS.below (below1 _ _)) (fun hS => ?_)
      clear hK K
      try simp only [Act.put, List.setIfInBounds_toArray, List.set_cons_zero, List.set_cons_succ]
      exact cast_R hR.out (st_4_7_8_17.out d8 X.heap.size _ hS (hB.trans ((below1 _ _).mono hB.size)) (heap_keep h8 (below1 _ _)) (MapKept.heap_alloc _ _).1 hB.size)
    exact AllReadyH.nil
  have st_4_7_11 : Hid (∀ (d11 : Nat) (X : World), Two m0 (m0 + 1) (.int .i64 (↑j + 1)) (.int .i64 an) (.string sa) (.int .i64 (↑j + 1)) (.int .i64 bn) (.string sb) X → Below w0.heap.size w0 X → X.heap[d11]? = some (.cells #[.int .i64 (↑j + 1), .int .i64 an, .string sa, .int .i64 (↑j + 1), .int .i64 bn, .string sb] 48 (0, 0)) → R 10 #[true, true, true, true, true, true, true, true, false, true, true, true, false, false, false, false, false, false, false, false, false] { tmps := List.toArray (.int .i64 kind :: .agg #[.int .i64 (↑j + 1), .int .i64 an, .string sa] :: .agg #[.int .i64 (↑j + 1), .int .i64 bn, .string sb] :: undef :: .pointer (some ⟨m0, 0, none⟩) :: .pointer (some ⟨m0 + 1, 0, none⟩) :: .pointer (some ⟨m0 + 1 + 1, 0, none⟩) :: .bool false :: .string ⟨#[l]⟩ :: undef :: undef :: undef :: .slice (some ⟨m0 + 1 + 1 + 1, 0, none⟩) 3 3 :: .pointer (some ⟨m0, 0, none⟩) :: .int .i64 (↑j + 1) :: .int .i64 ↑j :: .pointer (some ⟨m0 + 1 + 1 + 1, j, none⟩) :: .string ⟨#[l]⟩ :: undef :: .int .i64 kind :: .agg #[.int .i64 kind, .int .i64 0, .string ⟨#[]⟩] :: .string ⟨#[l]⟩ :: .string ⟨#[l, 49]⟩ :: .agg #[.int .i64 4, .int .i64 0, .string ⟨#[l, 49]⟩] :: .string ⟨#[l]⟩ :: .string ⟨#[l, 50]⟩ :: .agg #[.int .i64 4, .int .i64 0, .string ⟨#[l, 50]⟩] :: undef :: .agg #[.int .i64 (↑j + 1), .int .i64 an, .string sa] :: .agg #[.int .i64 (↑j + 1), .int .i64 bn, .string sb] :: .slice (some ⟨d11, 0, none⟩) 2 2 :: undef :: undef :: undef :: undef :: undef :: undef :: undef :: undef :: undef :: undef :: []), defers := [] } X) := by
    refine Lib.hid ?_
    intro d11 X hS hB h11
    rw [hR.out]
    refine wpAnyH_ready (rs := [8, 17]) (by kernel_rfl) (by simp) ?_
    refine AllReadyH.cons rfl (fun K hK => ?_) ?_
    · simp only [List.getElem_toArray, List.getElem_cons_zero, List.getElem_cons_succ]
      go_simp
      refine hK.out _ _ (hS.below (below1 _ _)) (fun hS => ?_)
      clear hK K
      try simp only [Act.put, List.setIfInBounds_toArray, List.set_cons_zero, List.set_cons_succ]
      exact cast_R hR.out (st_4_7_8_11.out X.heap.size d11 _ hS (hB.trans ((below1 _ _).mono hB.size)) (MapKept.heap_alloc _ _).1 (heap_keep h11 (below1 _ _)))
    refine AllReadyH.cons rfl (fun K hK => ?_) ?_
    · simp only [List.getElem_toArray, List.getElem_cons_zero, List.getElem_cons_succ]
      go_simp
      refine hK.out _ _ (hS.below (below1 _ _)) (fun hS => ?_)
      clear hK K
      try simp only [Act.put, List.setIfInBounds_toArray, List.set_cons_zero, List.set_cons_succ]
      exact cast_R hR.out (st_4_7_11_17.out d11 X.heap.size _ hS (hB.trans ((below1 _ _).mono hB.size)) (heap_keep h11 (below1 _ _)) (MapKept.heap_alloc _ _).1 hB.size)
    exact AllReadyH.nil
  have st_4_7_17 : Hid (∀ (d17 : Nat) (X : World), Two m0 (m0 + 1) (.int .i64 (↑j + 1)) (.int .i64 an) (.string sa) (.int .i64 (↑j + 1)) (.int .i64 bn) (.string sb) X → Below w0.heap.size w0 X → X.heap[d17]? = some (.cells #[.int .i64 0, .int .i64 0, .string ⟨#[]⟩] 48 (0, 0)) → w0.heap.size ≤ d17 → R 10 #[true, true, true, true, true, true, true, true, false, true, true, false, false, false, false, false, false, true, false, false, false] { tmps := List.toArray (.int .i64 kind :: .agg #[.int .i64 (↑j + 1), .int .i64 an, .string sa] :: .agg #[.int .i64 (↑j + 1), .int .i64 bn, .string sb] :: undef :: .pointer (some ⟨m0, 0, none⟩) :: .pointer (some ⟨m0 + 1, 0, none⟩) :: .pointer (some ⟨m0 + 1 + 1, 0, none⟩) :: .bool false :: .string ⟨#[l]⟩ :: .pointer (some ⟨d17, 0, none⟩) :: undef :: undef :: .slice (some ⟨m0 + 1 + 1 + 1, 0, none⟩) 3 3 :: .pointer (some ⟨m0, 0, none⟩) :: .int .i64 (↑j + 1) :: .int .i64 ↑j :: .pointer (some ⟨m0 + 1 + 1 + 1, j, none⟩) :: .string ⟨#[l]⟩ :: undef :: .int .i64 kind :: .agg #[.int .i64 kind, .int .i64 0, .string ⟨#[]⟩] :: .string ⟨#[l]⟩ :: .string ⟨#[l, 49]⟩ :: .agg #[.int .i64 4, .int .i64 0, .string ⟨#[l, 49]⟩] :: .string ⟨#[l]⟩ :: .string ⟨#[l, 50]⟩ :: .agg #[.int .i64 4, .int .i64 0, .string ⟨#[l, 50]⟩] :: undef :: .agg #[.int .i64 (↑j + 1), .int .i64 an, .string sa] :: .agg #[.int .i64 (↑j + 1), .int .i64 bn, .string sb] :: undef :: undef :: undef :: undef :: undef :: undef :: undef :: undef :: undef :: undef :: undef :: []), defers := [] } X) := by
    refine Lib.hid ?_
    intro d17 X hS hB h17 g17
    rw [hR.out]
    refine wpAnyH_ready (rs := [8, 11]) (by kernel_rfl) (by simp) ?_
    refine AllReadyH.cons rfl (fun K hK => ?_) ?_
    · simp only [List.getElem_toArray, List.getElem_cons_zero, List.getElem_cons_succ]
      go_simp
      refine hK.out _ _ (hS.below (below1 _ _)) (fun hS => ?_)
      clear hK K
      try simp only [Act.put, List.setIfInBounds_toArray, List.set_cons_zero, List.set_cons_succ]
      exact cast_R hR.out (st_4_7_8_17.out X.heap.size d17 _ hS (hB.trans ((below1 _ _).mono hB.size)) (MapKept.heap_alloc _ _).1 (heap_keep h17 (below1 _ _)) g17)
    refine AllReadyH.cons rfl (fun K hK => ?_) ?_
    · simp only [List.getElem_toArray, List.getElem_cons_zero, List.getElem_cons_succ]
      go_simp
      refine hK.out _ _ (hS.below (below1 _ _)) (fun hS => ?_)
      clear hK K
      try simp only [Act.put, List.setIfInBounds_toArray, List.set_cons_zero, List.set_cons_succ]
      exact cast_R hR.out (st_4_7_11_17.out X.heap.size d17 _ hS (hB.trans ((below1 _ _).mono hB.size)) (MapKept.heap_alloc _ _).1 (heap_keep h17 (below1 _ _)) g17)
    exact AllReadyH.nil
  have st_4_11_17 : Hid (∀ (d11 d17 : Nat) (X : World), Two m0 (m0 + 1) (.int .i64 (↑j + 1)) (.int .i64 an) (.string sa) (.int .i64 (↑j + 1)) (.int .i64 bn) (.string sb) X → Below w0.heap.size w0 X → X.heap[d11]? = some (.cells #[.int .i64 (↑j + 1), .int .i64 an, .string sa, .int .i64 (↑j + 1), .int .i64 bn, .string sb] 48 (0, 0)) → X.heap[d17]? = some (.cells #[.int .i64 0, .int .i64 0, .string ⟨#[]⟩] 48 (0, 0)) → w0.heap.size ≤ d17 → R 10 #[true, true, true, true, true, true, true, false, false, true, true, true, false, false, false, false, false, true, false, false, false] { tmps := List.toArray (.int .i64 kind :: .agg #[.int .i64 (↑j + 1), .int .i64 an, .string sa] :: .agg #[.int .i64 (↑j + 1), .int .i64 bn, .string sb] :: undef :: .pointer (some ⟨m0, 0, none⟩) :: .pointer (some ⟨m0 + 1, 0, none⟩) :: .pointer (some ⟨m0 + 1 + 1, 0, none⟩) :: .bool false :: .string ⟨#[l]⟩ :: .pointer (some ⟨d17, 0, none⟩) :: undef :: undef :: .slice (some ⟨m0 + 1 + 1 + 1, 0, none⟩) 3 3 :: .pointer (some ⟨m0, 0, none⟩) :: .int .i64 (↑j + 1) :: .int .i64 ↑j :: .pointer (some ⟨m0 + 1 + 1 + 1, j, none⟩) :: .string ⟨#[l]⟩ :: undef :: .int .i64 kind :: .agg #[.int .i64 kind, .int .i64 0, .string ⟨#[]⟩] :: .string ⟨#[l]⟩ :: .string ⟨#[l, 49]⟩ :: .agg #[.int .i64 4, .int .i64 0, .string ⟨#[l, 49]⟩] :: .string ⟨#[l]⟩ :: .string ⟨#[l, 50]⟩ :: undef :: undef :: .agg #[.int .i64 (↑j + 1), .int .i64 an, .string sa] :: .agg #[.int .i64 (↑j + 1), .int .i64 bn, .string sb] :: .slice (some ⟨d11, 0, none⟩) 2 2 :: undef :: undef :: undef :: undef :: undef :: undef :: undef :: undef :: undef :: undef :: []), defers := [] } X) := by
    refine Lib.hid ?_
    intro d11 d17 X hS hB h11 h17 g17
    rw [hR.out]
    refine wpAnyH_ready (rs := [7]) (by kernel_rfl) (by simp) ?_
    refine AllReadyH.cons rfl (fun K hK => ?_) ?_
    · simp only [List.getElem_toArray, List.getElem_cons_zero, List.getElem_cons_succ]
      go_simp
      go_at_call 33
      refine (name_is _ _).mono ?_
      rintro e Y ⟨rfl, hbY⟩
      show K _ _
      refine hK.out _ _ (hS.below hbY) (fun hS => ?_)
      clear hK K
      try simp only [Act.put, List.setIfInBounds_toArray, List.set_cons_zero, List.set_cons_succ]
      exact cast_R hR.out (st_4_7_11_17.out d11 d17 _ hS (hB.trans (hbY.mono hB.size)) (heap_keep h11 hbY) (heap_keep h17 hbY) g17)
    exact AllReadyH.nil
  have st_4_7 : Hid (∀ (X : World), Two m0 (m0 + 1) (.int .i64 (↑j + 1)) (.int .i64 an) (.string sa) (.int .i64 (↑j + 1)) (.int .i64 bn) (.string sb) X → Below w0.heap.size w0 X → R 11 #[true, true, true, true, true, true, true, true, false, true, true, false, false, false, false, false, false, false, false, false, false] { tmps := List.toArray (.int .i64 kind :: .agg #[.int .i64 (↑j + 1), .int .i64 an, .string sa] :: .agg #[.int .i64 (↑j + 1), .int .i64 bn, .string sb] :: undef :: .pointer (some ⟨m0, 0, none⟩) :: .pointer (some ⟨m0 + 1, 0, none⟩) :: .pointer (some ⟨m0 + 1 + 1, 0, none⟩) :: .bool false :: .string ⟨#[l]⟩ :: undef :: undef :: undef :: .slice (some ⟨m0 + 1 + 1 + 1, 0, none⟩) 3 3 :: .pointer (some ⟨m0, 0, none⟩) :: .int .i64 (↑j + 1) :: .int .i64 ↑j :: .pointer (some ⟨m0 + 1 + 1 + 1, j, none⟩) :: .string ⟨#[l]⟩ :: undef :: .int .i64 kind :: .agg #[.int .i64 kind, .int .i64 0, .string ⟨#[]⟩] :: .string ⟨#[l]⟩ :: .string ⟨#[l, 49]⟩ :: .agg #[.int .i64 4, .int .i64 0, .string ⟨#[l, 49]⟩] :: .string ⟨#[l]⟩ :: .string ⟨#[l, 50]⟩ :: .agg #[.int .i64 4, .int .i64 0, .string ⟨#[l, 50]⟩] :: undef :: .agg #[.int .i64 (↑j + 1), .int .i64 an, .string sa] :: .agg #[.int .i64 (↑j + 1), .int .i64 bn, .string sb] :: undef :: undef :: undef :: undef :: undef :: undef :: undef :: undef :: undef :: undef :: undef :: []), defers := [] } X) := by
    refine Lib.hid ?_
    intro X hS hB
    rw [hR.out]
    refine wpAnyH_ready (rs := [8, 11, 17]) (by kernel_rfl) (by simp) ?_
    refine AllReadyH.cons rfl (fun K hK => ?_) ?_
    · simp only [List.getElem_toArray, List.getElem_cons_zero, List.getElem_cons_succ]
      go_simp
      refine hK.out _ _ (hS.below (below1 _ _)) (fun hS => ?_)
      clear hK K
      try simp only [Act.put, List.setIfInBounds_toArray, List.set_cons_zero, List.set_cons_succ]
      exact cast_R hR.out (st_4_7_8.out X.heap.size _ hS (hB.trans ((below1 _ _).mono hB.size)) (MapKept.heap_alloc _ _).1)
    refine AllReadyH.cons rfl (fun K hK => ?_) ?_
    · simp only [List.getElem_toArray, List.getElem_cons_zero, List.getElem_cons_succ]
      go_simp
      refine hK.out _ _ (hS.below (below1 _ _)) (fun hS => ?_)
      clear hK K
      try simp only [Act.put, List.setIfInBounds_toArray, List.set_cons_zero, List.set_cons_succ]
      exact cast_R hR.out (st_4_7_11.out X.heap.size _ hS (hB.trans ((below1 _ _).mono hB.size)) (MapKept.heap_alloc _ _).1)
    refine AllReadyH.cons rfl (fun K hK => ?_) ?_
    · simp only [List.getElem_toArray, List.getElem_cons_zero, List.getElem_cons_succ]
      go_simp
      refine hK.out _ _ (hS.below (below1 _ _)) (fun hS => ?_)
      clear hK K
      try simp only [Act.put, List.setIfInBounds_toArray, List.set_cons_zero, List.set_cons_succ]
      exact cast_R hR.out (st_4_7_17.out X.heap.size _ hS (hB.trans ((below1 _ _).mono hB.size)) (MapKept.heap_alloc _ _).1 hB.size)
    exact AllReadyH.nil
  have st_4_11 : Hid (∀ (d11 : Nat) (X : World), Two m0 (m0 + 1) (.int .i64 (↑j + 1)) (.int .i64 an) (.string sa) (.int .i64 (↑j + 1)) (.int .i64 bn) (.string sb) X → Below w0.heap.size w0 X → X.heap[d11]? = some (.cells #[.int .i64 (↑j + 1), .int .i64 an, .string sa, .int .i64 (↑j + 1), .int .i64 bn, .string sb] 48 (0, 0)) → R 11 #[true, true, true, true, true, true, true, false, false, true, true, true, false, false, false, false, false, false, false, false, false] { tmps := List.toArray (.int .i64 kind :: .agg #[.int .i64 (↑j + 1), .int .i64 an, .string sa] :: .agg #[.int .i64 (↑j + 1), .int .i64 bn, .string sb] :: undef :: .pointer (some ⟨m0, 0, none⟩) :: .pointer (some ⟨m0 + 1, 0, none⟩) :: .pointer (some ⟨m0 + 1 + 1, 0, none⟩) :: .bool false :: .string ⟨#[l]⟩ :: undef :: undef :: undef :: .slice (some ⟨m0 + 1 + 1 + 1, 0, none⟩) 3 3 :: .pointer (some ⟨m0, 0, none⟩) :: .int .i64 (↑j + 1) :: .int .i64 ↑j :: .pointer (some ⟨m0 + 1 + 1 + 1, j, none⟩) :: .string ⟨#[l]⟩ :: undef :: .int .i64 kind :: .agg #[.int .i64 kind, .int .i64 0, .string ⟨#[]⟩] :: .string ⟨#[l]⟩ :: .string ⟨#[l, 49]⟩ :: .agg #[.int .i64 4, .int .i64 0, .string ⟨#[l, 49]⟩] :: .string ⟨#[l]⟩ :: .string ⟨#[l, 50]⟩ :: undef :: undef :: .agg #[.int .i64 (↑j + 1), .int .i64 an, .string sa] :: .agg #[.int .i64 (↑j + 1), .int .i64 bn, .string sb] :: .slice (some ⟨d11, 0, none⟩) 2 2 :: undef :: undef :: undef :: undef :: undef :: undef :: undef :: undef :: undef :: undef :: []), defers := [] } X) := by
    refine Lib.hid ?_
    intro d11 X hS hB h11
    rw [hR.out]
    refine wpAnyH_ready (rs := [7, 17]) (by kernel_rfl) (by simp) ?_
    refine AllReadyH.cons rfl (fun K hK => ?_) ?_
    · simp only [List.getElem_toArray, List.getElem_cons_zero, List.getElem_cons_succ]
      go_simp
      go_at_call 33
      refine (name_is _ _).mono ?_
      rintro e Y ⟨rfl, hbY⟩
      show K _ _
      refine hK.out _ _ (hS.below hbY) (fun hS => ?_)
      clear hK K
      try simp only [Act.put, List.setIfInBounds_toArray, List.set_cons_zero, List.set_cons_succ]
      exact cast_R hR.out (st_4_7_11.out d11 _ hS (hB.trans (hbY.mono hB.size)) (heap_keep h11 hbY))
    refine AllReadyH.cons rfl (fun K hK => ?_) ?_
    · simp only [List.getElem_toArray, List.getElem_cons_zero, List.getElem_cons_succ]
      go_simp
      refine hK.out _ _ (hS.below (below1 _ _)) (fun hS => ?_)
      clear hK K
      try simp only [Act.put, List.setIfInBounds_toArray, List.set_cons_zero, List.set_cons_succ]
      exact cast_R hR.out (st_4_11_17.out d11 X.heap.size _ hS (hB.trans ((below1 _ _).mono hB.size)) (heap_keep h11 (below1 _ _)) (MapKept.heap_alloc _ _).1 hB.size)
    exact AllReadyH.nil
  have st_4_17 : Hid (∀ (d17 : Nat) (X : World), Two m0 (m0 + 1) (.int .i64 (↑j + 1)) (.int .i64 an) (.string sa) (.int .i64 (↑j + 1)) (.int .i64 bn) (.string sb) X → Below w0.heap.size w0 X → X.heap[d17]? = some (.cells #[.int .i64 0, .int .i64 0, .string ⟨#[]⟩] 48 (0, 0)) → w0.heap.size ≤ d17 → R 11 #[true, true, true, true, true, true, true, false, false, true, true, false, false, false, false, false, false, true, false, false, false] { tmps := List.toArray (.int .i64 kind :: .agg #[.int .i64 (↑j + 1), .int .i64 an, .string sa] :: .agg #[.int .i64 (↑j + 1), .int .i64 bn, .string sb] :: undef :: .pointer (some ⟨m0, 0, none⟩) :: .pointer (some ⟨m0 + 1, 0, none⟩) :: .pointer (some ⟨m0 + 1 + 1, 0, none⟩) :: .bool false :: .string ⟨#[l]⟩ :: .pointer (some ⟨d17, 0, none⟩) :: undef :: undef :: .slice (some ⟨m0 + 1 + 1 + 1, 0, none⟩) 3 3 :: .pointer (some ⟨m0, 0, none⟩) :: .int .i64 (↑j + 1) :: .int .i64 ↑j :: .pointer (some ⟨m0 + 1 + 1 + 1, j, none⟩) :: .string ⟨#[l]⟩ :: undef :: .int .i64 kind :: .agg #[.int .i64 kind, .int .i64 0, .string ⟨#[]⟩] :: .string ⟨#[l]⟩ :: .string ⟨#[l, 49]⟩ :: .agg #[.int .i64 4, .int .i64 0, .string ⟨#[l, 49]⟩] :: .string ⟨#[l]⟩ :: .string ⟨#[l, 50]⟩ :: undef :: undef :: .agg #[.int .i64 (↑j + 1), .int .i64 an, .string sa] :: .agg #[.int .i64 (↑j + 1), .int .i64 bn, .string sb] :: undef :: undef :: undef :: undef :: undef :: undef :: undef :: undef :: undef :: undef :: undef :: []), defers := [] } X) := by
    refine Lib.hid ?_
    intro d17 X hS hB h17 g17
    rw [hR.out]
    refine wpAnyH_ready (rs := [7, 11]) (by kernel_rfl) (by simp) ?_
    refine AllReadyH.cons rfl (fun K hK => ?_) ?_
    · simp only [List.getElem_toArray, List.getElem_cons_zero, List.getElem_cons_succ]
      go_simp
      go_at_call 33
      refine (name_is _ _).mono ?_
      rintro e Y ⟨rfl, hbY⟩
      show K _ _
      refine hK.out _ _ (hS.below hbY) (fun hS => ?_)
      clear hK K
      try simp only [Act.put, List.setIfInBounds_toArray, List.set_cons_zero, List.set_cons_succ]
      exact cast_R hR.out (st_4_7_17.out d17 _ hS (hB.trans (hbY.mono hB.size)) (heap_keep h17 hbY) g17)
    refine AllReadyH.cons rfl (fun K hK => ?_) ?_
    · simp only [List.getElem_toArray, List.getElem_cons_zero, List.getElem_cons_succ]
      go_simp
      refine hK.out _ _ (hS.below (below1 _ _)) (fun hS => ?_)
      clear hK K
      try simp only [Act.put, List.setIfInBounds_toArray, List.set_cons_zero, List.set_cons_succ]
      exact cast_R hR.out (st_4_11_17.out X.heap.size d17 _ hS (hB.trans ((below1 _ _).mono hB.size)) (MapKept.heap_alloc _ _).1 (heap_keep h17 (below1 _ _)) g17)
    exact AllReadyH.nil
  have st_11_17 : Hid (∀ (d11 d17 : Nat) (X : World), Two m0 (m0 + 1) (.int .i64 (↑j + 1)) (.int .i64 an) (.string sa) (.int .i64 (↑j + 1)) (.int .i64 bn) (.string sb) X → Below w0.heap.size w0 X → X.heap[d11]? = some (.cells #[.int .i64 (↑j + 1), .int .i64 an, .string sa, .int .i64 (↑j + 1), .int .i64 bn, .string sb] 48 (0, 0)) → X.heap[d17]? = some (.cells #[.int .i64 0, .int .i64 0, .string ⟨#[]⟩] 48 (0, 0)) → w0.heap.size ≤ d17 → R 11 #[true, true, true, true, false, true, true, false, false, true, true, true, false, false, false, false, false, true, false, false, false] { tmps := List.toArray (.int .i64 kind :: .agg #[.int .i64 (↑j + 1), .int .i64 an, .string sa] :: .agg #[.int .i64 (↑j + 1), .int .i64 bn, .string sb] :: undef :: .pointer (some ⟨m0, 0, none⟩) :: .pointer (some ⟨m0 + 1, 0, none⟩) :: .pointer (some ⟨m0 + 1 + 1, 0, none⟩) :: .bool false :: .string ⟨#[l]⟩ :: .pointer (some ⟨d17, 0, none⟩) :: undef :: undef :: .slice (some ⟨m0 + 1 + 1 + 1, 0, none⟩) 3 3 :: .pointer (some ⟨m0, 0, none⟩) :: .int .i64 (↑j + 1) :: .int .i64 ↑j :: .pointer (some ⟨m0 + 1 + 1 + 1, j, none⟩) :: .string ⟨#[l]⟩ :: undef :: .int .i64 kind :: .agg #[.int .i64 kind, .int .i64 0, .string ⟨#[]⟩] :: .string ⟨#[l]⟩ :: .string ⟨#[l, 49]⟩ :: undef :: .string ⟨#[l]⟩ :: .string ⟨#[l, 50]⟩ :: undef :: undef :: .agg #[.int .i64 (↑j + 1), .int .i64 an, .string sa] :: .agg #[.int .i64 (↑j + 1), .int .i64 bn, .string sb] :: .slice (some ⟨d11, 0, none⟩) 2 2 :: undef :: undef :: undef :: undef :: undef :: undef :: undef :: undef :: undef :: undef :: []), defers := [] } X) := by
    refine Lib.hid ?_
    intro d11 d17 X hS hB h11 h17 g17
    rw [hR.out]
    refine wpAnyH_ready (rs := [4]) (by kernel_rfl) (by simp) ?_
    refine AllReadyH.cons rfl (fun K hK => ?_) ?_
    · simp only [List.getElem_toArray, List.getElem_cons_zero, List.getElem_cons_succ]
      go_simp
      go_at_call 33
      refine (name_is _ _).mono ?_
      rintro e Y ⟨rfl, hbY⟩
      show K _ _
      refine hK.out _ _ (hS.below hbY) (fun hS => ?_)
      clear hK K
      try simp only [Act.put, List.setIfInBounds_toArray, List.set_cons_zero, List.set_cons_succ]
      exact cast_R hR.out (st_4_11_17.out d11 d17 _ hS (hB.trans (hbY.mono hB.size)) (heap_keep h11 hbY) (heap_keep h17 hbY) g17)
    exact AllReadyH.nil
  have st_4 : Hid (∀ (X : World), Two m0 (m0 + 1) (.int .i64 (↑j + 1)) (.int .i64 an) (.string sa) (.int .i64 (↑j + 1)) (.int .i64 bn) (.string sb) X → Below w0.heap.size w0 X → R 12 #[true, true, true, true, true, true, true, false, false, true, true, false, false, false, false, false, false, false, false, false, false] { tmps := List.toArray (.int .i64 kind :: .agg #[.int .i64 (↑j + 1), .int .i64 an, .string sa] :: .agg #[.int .i64 (↑j + 1), .int .i64 bn, .string sb] :: undef :: .pointer (some ⟨m0, 0, none⟩) :: .pointer (some ⟨m0 + 1, 0, none⟩) :: .pointer (some ⟨m0 + 1 + 1, 0, none⟩) :: .bool false :: .string ⟨#[l]⟩ :: undef :: undef :: undef :: .slice (some ⟨m0 + 1 + 1 + 1, 0, none⟩) 3 3 :: .pointer (some ⟨m0, 0, none⟩) :: .int .i64 (↑j + 1) :: .int .i64 ↑j :: .pointer (some ⟨m0 + 1 + 1 + 1, j, none⟩) :: .string ⟨#[l]⟩ :: undef :: .int .i64 kind :: .agg #[.int .i64 kind, .int .i64 0, .string ⟨#[]⟩] :: .string ⟨#[l]⟩ :: .string ⟨#[l, 49]⟩ :: .agg #[.int .i64 4, .int .i64 0, .string ⟨#[l, 49]⟩] :: .string ⟨#[l]⟩ :: .string ⟨#[l, 50]⟩ :: undef :: undef :: .agg #[.int .i64 (↑j + 1), .int .i64 an, .string sa] :: .agg #[.int .i64 (↑j + 1), .int .i64 bn, .string sb] :: undef :: undef :: undef :: undef :: undef :: undef :: undef :: undef :: undef :: undef :: undef :: []), defers := [] } X) := by
    refine Lib.hid ?_
    intro X hS hB
    rw [hR.out]
    refine wpAnyH_ready (rs := [7, 11, 17]) (by kernel_rfl) (by simp) ?_
    refine AllReadyH.cons rfl (fun K hK => ?_) ?_
    · simp only [List.getElem_toArray, List.getElem_cons_zero, List.getElem_cons_succ]
      go_simp
      go_at_call 33
      refine (name_is _ _).mono ?_
      rintro e Y ⟨rfl, hbY⟩
      show K _ _
      refine hK.out _ _ (hS.below hbY) (fun hS => ?_)
      clear hK K
      try simp only [Act.put, List.setIfInBounds_toArray, List.set_cons_zero, List.set_cons_succ]
      exact cast_R hR.out (st_4_7.out  _ hS (hB.trans (hbY.mono hB.size)) )
    refine AllReadyH.cons rfl (fun K hK => ?_) ?_
    · simp only [List.getElem_toArray, List.getElem_cons_zero, List.getElem_cons_succ]
      go_simp
      refine hK.out _ _ (hS.below (below1 _ _)) (fun hS => ?_)
      clear hK K
      try simp only [Act.put, List.setIfInBounds_toArray, List.set_cons_zero, List.set_cons_succ]
      exact cast_R hR.out (st_4_11.out X.heap.size _ hS (hB.trans ((below1 _ _).mono hB.size)) (MapKept.heap_alloc _ _).1)
    refine AllReadyH.cons rfl (fun K hK => ?_) ?_
    · simp only [List.getElem_toArray, List.getElem_cons_zero, List.getElem_cons_succ]
      go_simp
      refine hK.out _ _ (hS.below (below1 _ _)) (fun hS => ?_)
      clear hK K
      try simp only [Act.put, List.setIfInBounds_toArray, List.set_cons_zero, List.set_cons_succ]
      exact cast_R hR.out (st_4_17.out X.heap.size _ hS (hB.trans ((below1 _ _).mono hB.size)) (MapKept.heap_alloc _ _).1 hB.size)
    exact AllReadyH.nil
  have st_11 : Hid (∀ (d11 : Nat) (X : World), Two m0 (m0 + 1) (.int .i64 (↑j + 1)) (.int .i64 an) (.string sa) (.int .i64 (↑j + 1)) (.int .i64 bn) (.string sb) X → Below w0.heap.size w0 X → X.heap[d11]? = some (.cells #[.int .i64 (↑j + 1), .int .i64 an, .string sa, .int .i64 (↑j + 1), .int .i64 bn, .string sb] 48 (0, 0)) → R 12 #[true, true, true, true, false, true, true, false, false, true, true, true, false, false, false, false, false, false, false, false, false] { tmps := List.toArray (.int .i64 kind :: .agg #[.int .i64 (↑j + 1), .int .i64 an, .string sa] :: .agg #[.int .i64 (↑j + 1), .int .i64 bn, .string sb] :: undef :: .pointer (some ⟨m0, 0, none⟩) :: .pointer (some ⟨m0 + 1, 0, none⟩) :: .pointer (some ⟨m0 + 1 + 1, 0, none⟩) :: .bool false :: .string ⟨#[l]⟩ :: undef :: undef :: undef :: .slice (some ⟨m0 + 1 + 1 + 1, 0, none⟩) 3 3 :: .pointer (some ⟨m0, 0, none⟩) :: .int .i64 (↑j + 1) :: .int .i64 ↑j :: .pointer (some ⟨m0 + 1 + 1 + 1, j, none⟩) :: .string ⟨#[l]⟩ :: undef :: .int .i64 kind :: .agg #[.int .i64 kind, .int .i64 0, .string ⟨#[]⟩] :: .string ⟨#[l]⟩ :: .string ⟨#[l, 49]⟩ :: undef :: .string ⟨#[l]⟩ :: .string ⟨#[l, 50]⟩ :: undef :: undef :: .agg #[.int .i64 (↑j + 1), .int .i64 an, .string sa] :: .agg #[.int .i64 (↑j + 1), .int .i64 bn, .string sb] :: .slice (some ⟨d11, 0, none⟩) 2 2 :: undef :: undef :: undef :: undef :: undef :: undef :: undef :: undef :: undef :: undef :: []), defers := [] } X) := by
    refine Lib.hid ?_
    intro d11 X hS hB h11
    rw [hR.out]
    refine wpAnyH_ready (rs := [4, 17]) (by kernel_rfl) (by simp) ?_
    refine AllReadyH.cons rfl (fun K hK => ?_) ?_
    · simp only [List.getElem_toArray, List.getElem_cons_zero, List.getElem_cons_succ]
      go_simp
      go_at_call 33
      refine (name_is _ _).mono ?_
      rintro e Y ⟨rfl, hbY⟩
      show K _ _
      refine hK.out _ _ (hS.below hbY) (fun hS => ?_)
      clear hK K
      try simp only [Act.put, List.setIfInBounds_toArray, List.set_cons_zero, List.set_cons_succ]
      exact cast_R hR.out (st_4_11.out d11 _ hS (hB.trans (hbY.mono hB.size)) (heap_keep h11 hbY))
    refine AllReadyH.cons rfl (fun K hK => ?_) ?_
    · simp only [List.getElem_toArray, List.getElem_cons_zero, List.getElem_cons_succ]
      go_simp
      refine hK.out _ _ (hS.below (below1 _ _)) (fun hS => ?_)
      clear hK K
      try simp only [Act.put, List.setIfInBounds_toArray, List.set_cons_zero, List.set_cons_succ]
      exact cast_R hR.out (st_11_17.out d11 X.heap.size _ hS (hB.trans ((below1 _ _).mono hB.size)) (heap_keep h11 (below1 _ _)) (MapKept.heap_alloc _ _).1 hB.size)
    exact AllReadyH.nil
  have st_17 : Hid (∀ (d17 : Nat) (X : World), Two m0 (m0 + 1) (.int .i64 (↑j + 1)) (.int .i64 an) (.string sa) (.int .i64 (↑j + 1)) (.int .i64 bn) (.string sb) X → Below w0.heap.size w0 X → X.heap[d17]? = some (.cells #[.int .i64 0, .int .i64 0, .string ⟨#[]⟩] 48 (0, 0)) → w0.heap.size ≤ d17 → R 12 #[true, true, true, true, false, true, true, false, false, true, true, false, false, false, false, false, false, true, false, false, false] { tmps := List.toArray (.int .i64 kind :: .agg #[.int .i64 (↑j + 1), .int .i64 an, .string sa] :: .agg #[.int .i64 (↑j + 1), .int .i64 bn, .string sb] :: undef :: .pointer (some ⟨m0, 0, none⟩) :: .pointer (some ⟨m0 + 1, 0, none⟩) :: .pointer (some ⟨m0 + 1 + 1, 0, none⟩) :: .bool false :: .string ⟨#[l]⟩ :: .pointer (some ⟨d17, 0, none⟩) :: undef :: undef :: .slice (some ⟨m0 + 1 + 1 + 1, 0, none⟩) 3 3 :: .pointer (some ⟨m0, 0, none⟩) :: .int .i64 (↑j + 1) :: .int .i64 ↑j :: .pointer (some ⟨m0 + 1 + 1 + 1, j, none⟩) :: .string ⟨#[l]⟩ :: undef :: .int .i64 kind :: .agg #[.int .i64 kind, .int .i64 0, .string ⟨#[]⟩] :: .string ⟨#[l]⟩ :: .string ⟨#[l, 49]⟩ :: undef :: .string ⟨#[l]⟩ :: .string ⟨#[l, 50]⟩ :: undef :: undef :: .agg #[.int .i64 (↑j + 1), .int .i64 an, .string sa] :: .agg #[.int .i64 (↑j + 1), .int .i64 bn, .string sb] :: undef :: undef :: undef :: undef :: undef :: undef :: undef :: undef :: undef :: undef :: undef :: []), defers := [] } X) := by
    refine Lib.hid ?_
    intro d17 X hS hB h17 g17
    rw [hR.out]
    refine wpAnyH_ready (rs := [4, 11]) (by kernel_rfl) (by simp) ?_
    refine AllReadyH.cons rfl (fun K hK => ?_) ?_
    · simp only [List.getElem_toArray, List.getElem_cons_zero, List.getElem_cons_succ]
      go_simp
      go_at_call 33
      refine (name_is _ _).mono ?_
      rintro e Y ⟨rfl, hbY⟩
      show K _ _
      refine hK.out _ _ (hS.below hbY) (fun hS => ?_)
      clear hK K
      try simp only [Act.put, List.setIfInBounds_toArray, List.set_cons_zero, List.set_cons_succ]
      exact cast_R hR.out (st_4_17.out d17 _ hS (hB.trans (hbY.mono hB.size)) (heap_keep h17 hbY) g17)
    refine AllReadyH.cons rfl (fun K hK => ?_) ?_
    · simp only [List.getElem_toArray, List.getElem_cons_zero, List.getElem_cons_succ]
      go_simp
      refine hK.out _ _ (hS.below (below1 _ _)) (fun hS => ?_)
      clear hK K
      try simp only [Act.put, List.setIfInBounds_toArray, List.set_cons_zero, List.set_cons_succ]
      exact cast_R hR.out (st_11_17.out X.heap.size d17 _ hS (hB.trans ((below1 _ _).mono hB.size)) (MapKept.heap_alloc _ _).1 (heap_keep h17 (below1 _ _)) g17)
    exact AllReadyH.nil
  have st_0 : Hid (∀ (X : World), Two m0 (m0 + 1) (.int .i64 (↑j + 1)) (.int .i64 an) (.string sa) (.int .i64 (↑j + 1)) (.int .i64 bn) (.string sb) X → Below w0.heap.size w0 X → R 13 #[true, true, true, true, false, true, true, false, false, true, true, false, false, false, false, false, false, false, false, false, false] { tmps := List.toArray (.int .i64 kind :: .agg #[.int .i64 (↑j + 1), .int .i64 an, .string sa] :: .agg #[.int .i64 (↑j + 1), .int .i64 bn, .string sb] :: undef :: .pointer (some ⟨m0, 0, none⟩) :: .pointer (some ⟨m0 + 1, 0, none⟩) :: .pointer (some ⟨m0 + 1 + 1, 0, none⟩) :: .bool false :: .string ⟨#[l]⟩ :: undef :: undef :: undef :: .slice (some ⟨m0 + 1 + 1 + 1, 0, none⟩) 3 3 :: .pointer (some ⟨m0, 0, none⟩) :: .int .i64 (↑j + 1) :: .int .i64 ↑j :: .pointer (some ⟨m0 + 1 + 1 + 1, j, none⟩) :: .string ⟨#[l]⟩ :: undef :: .int .i64 kind :: .agg #[.int .i64 kind, .int .i64 0, .string ⟨#[]⟩] :: .string ⟨#[l]⟩ :: .string ⟨#[l, 49]⟩ :: undef :: .string ⟨#[l]⟩ :: .string ⟨#[l, 50]⟩ :: undef :: undef :: .agg #[.int .i64 (↑j + 1), .int .i64 an, .string sa] :: .agg #[.int .i64 (↑j + 1), .int .i64 bn, .string sb] :: undef :: undef :: undef :: undef :: undef :: undef :: undef :: undef :: undef :: undef :: undef :: []), defers := [] } X) := by
    refine Lib.hid ?_
    intro X hS hB
    rw [hR.out]
    refine wpAnyH_ready (rs := [4, 11, 17]) (by kernel_rfl) (by simp) ?_
    refine AllReadyH.cons rfl (fun K hK => ?_) ?_
    · simp only [List.getElem_toArray, List.getElem_cons_zero, List.getElem_cons_succ]
      go_simp
      go_at_call 33
      refine (name_is _ _).mono ?_
      rintro e Y ⟨rfl, hbY⟩
      show K _ _
      refine hK.out _ _ (hS.below hbY) (fun hS => ?_)
      clear hK K
      try simp only [Act.put, List.setIfInBounds_toArray, List.set_cons_zero, List.set_cons_succ]
      exact cast_R hR.out (st_4.out  _ hS (hB.trans (hbY.mono hB.size)) )
    refine AllReadyH.cons rfl (fun K hK => ?_) ?_
    · simp only [List.getElem_toArray, List.getElem_cons_zero, List.getElem_cons_succ]
      go_simp
      refine hK.out _ _ (hS.below (below1 _ _)) (fun hS => ?_)
      clear hK K
      try simp only [Act.put, List.setIfInBounds_toArray, List.set_cons_zero, List.set_cons_succ]
      exact cast_R hR.out (st_11.out X.heap.size _ hS (hB.trans ((below1 _ _).mono hB.size)) (MapKept.heap_alloc _ _).1)
    refine AllReadyH.cons rfl (fun K hK => ?_) ?_
    · simp only [List.getElem_toArray, List.getElem_cons_zero, List.getElem_cons_succ]
      go_simp
      refine hK.out _ _ (hS.below (below1 _ _)) (fun hS => ?_)
      clear hK K
      try simp only [Act.put, List.setIfInBounds_toArray, List.set_cons_zero, List.set_cons_succ]
      exact cast_R hR.out (st_17.out X.heap.size _ hS (hB.trans ((below1 _ _).mono hB.size)) (MapKept.heap_alloc _ _).1 hB.size)
    exact AllReadyH.nil
  show R 21 #[false, false, false, false, false, false, false, false, false, false, false, false, false, false, false, false, false, false, false, false, false] { tmps := List.toArray (.int .i64 kind :: .agg #[.int .i64 (↑j + 1), .int .i64 an, .string sa] :: .agg #[.int .i64 (↑j + 1), .int .i64 bn, .string sb] :: undef :: .pointer (some ⟨m0, 0, none⟩) :: .pointer (some ⟨m0 + 1, 0, none⟩) :: .pointer (some ⟨m0 + 1 + 1, 0, none⟩) :: .bool false :: .string ⟨#[l]⟩ :: undef :: undef :: undef :: .slice (some ⟨m0 + 1 + 1 + 1, 0, none⟩) 3 3 :: .pointer (some ⟨m0, 0, none⟩) :: .int .i64 (↑j + 1) :: .int .i64 ↑j :: .pointer (some ⟨m0 + 1 + 1 + 1, j, none⟩) :: .string ⟨#[l]⟩ :: undef :: undef :: undef :: undef :: undef :: undef :: undef :: undef :: undef :: undef :: undef :: undef :: undef :: undef :: undef :: undef :: undef :: undef :: undef :: undef :: undef :: undef :: undef :: []), defers := [] } _
  rw [hR.out]
  have hS := hS0
  refine wpAnyH_take (i := 0) (v := .int .i64 kind) rfl (by kernel_rfl) (by kernel_rfl) (by kernel_rfl) (fun _ _ _ h => h) (Or.inl ⟨by rfl, ?_⟩) hS ?_
  · intro w' hSw
    obtain ⟨q0, q1, q2, q3, q4, q5⟩ := hSw
    simp only [List.getElem_toArray, List.getElem_cons_zero, List.getElem_cons_succ]
    first | (go_simp; done) | (go_simp; rfl)
  try simp only [Act.put, List.setIfInBounds_toArray, List.set_cons_zero, List.set_cons_succ]
  refine wpAnyH_take (i := 1) (v := .agg #[.int .i64 kind, .int .i64 0, .string ⟨#[]⟩]) rfl (by kernel_rfl) (by kernel_rfl) (by kernel_rfl) (fun _ _ _ h => h) (Or.inl ⟨by rfl, ?_⟩) hS ?_
  · intro w' hSw
    obtain ⟨q0, q1, q2, q3, q4, q5⟩ := hSw
    simp only [List.getElem_toArray, List.getElem_cons_zero, List.getElem_cons_succ]
    first | (go_simp; done) | (go_simp; rfl)
  try simp only [Act.put, List.setIfInBounds_toArray, List.set_cons_zero, List.set_cons_succ]
  refine wpAnyH_take (i := 2) (v := .string ⟨#[l]⟩) rfl (by kernel_rfl) (by kernel_rfl) (by kernel_rfl) (fun _ _ _ h => h) (Or.inl ⟨by rfl, ?_⟩) hS ?_
  · intro w' hSw
    obtain ⟨q0, q1, q2, q3, q4, q5⟩ := hSw
    simp only [List.getElem_toArray, List.getElem_cons_zero, List.getElem_cons_succ]
    first | (go_simp; done) | (go_simp; rfl)
  try simp only [Act.put, List.setIfInBounds_toArray, List.set_cons_zero, List.set_cons_succ]
  refine wpAnyH_take (i := 3) (v := .string ⟨#[l, 49]⟩) rfl (by kernel_rfl) (by kernel_rfl) (by kernel_rfl) (fun _ _ _ h => h) (Or.inl ⟨by rfl, ?_⟩) hS ?_
  · intro w' hSw
    obtain ⟨q0, q1, q2, q3, q4, q5⟩ := hSw
    simp only [List.getElem_toArray, List.getElem_cons_zero, List.getElem_cons_succ]
    first | (go_simp; done) | (go_simp; rfl)
  try simp only [Act.put, List.setIfInBounds_toArray, List.set_cons_zero, List.set_cons_succ]
  refine wpAnyH_take (i := 5) (v := .string ⟨#[l]⟩) rfl (by kernel_rfl) (by kernel_rfl) (by kernel_rfl) (fun _ _ _ h => h) (Or.inl ⟨by rfl, ?_⟩) hS ?_
  · intro w' hSw
    obtain ⟨q0, q1, q2, q3, q4, q5⟩ := hSw
    simp only [List.getElem_toArray, List.getElem_cons_zero, List.getElem_cons_succ]
    first | (go_simp; done) | (go_simp; rfl)
  try simp only [Act.put, List.setIfInBounds_toArray, List.set_cons_zero, List.set_cons_succ]
  refine wpAnyH_take (i := 6) (v := .string ⟨#[l, 50]⟩) rfl (by kernel_rfl) (by kernel_rfl) (by kernel_rfl) (fun _ _ _ h => h) (Or.inl ⟨by rfl, ?_⟩) hS ?_
  · intro w' hSw
    obtain ⟨q0, q1, q2, q3, q4, q5⟩ := hSw
    simp only [List.getElem_toArray, List.getElem_cons_zero, List.getElem_cons_succ]
    first | (go_simp; done) | (go_simp; rfl)
  try simp only [Act.put, List.setIfInBounds_toArray, List.set_cons_zero, List.set_cons_succ]
  refine wpAnyH_take (i := 9) (v := .agg #[.int .i64 (↑j + 1), .int .i64 an, .string sa]) rfl (by kernel_rfl) (by kernel_rfl) (by kernel_rfl) (fun _ _ _ h => h) (Or.inl ⟨by rfl, ?_⟩) hS ?_
  · intro w' hSw
    obtain ⟨q0, q1, q2, q3, q4, q5⟩ := hSw
    simp only [List.getElem_toArray, List.getElem_cons_zero, List.getElem_cons_succ]
    first | (go_simp; done) | (go_simp; rfl)
  try simp only [Act.put, List.setIfInBounds_toArray, List.set_cons_zero, List.set_cons_succ]
  refine wpAnyH_take (i := 10) (v := .agg #[.int .i64 (↑j + 1), .int .i64 bn, .string sb]) rfl (by kernel_rfl) (by kernel_rfl) (by kernel_rfl) (fun _ _ _ h => h) (Or.inl ⟨by rfl, ?_⟩) hS ?_
  · intro w' hSw
    obtain ⟨q0, q1, q2, q3, q4, q5⟩ := hSw
    simp only [List.getElem_toArray, List.getElem_cons_zero, List.getElem_cons_succ]
    first | (go_simp; done) | (go_simp; rfl)
  try simp only [Act.put, List.setIfInBounds_toArray, List.set_cons_zero, List.set_cons_succ]
  exact cast_R hR.out (st_0.out _ hS0 hB0d)
end Go.Proofs.YtchoelgkcnnnkaaGreatDoor
