/- LAWS for the regions of FormulaLaws that draw their order; what formula.Value gives there. -/
import Derived.Test.YtchoelgkcnnnkaaGreatDoorLawB
import Derived.Lib.SmallJoins
set_option linter.all false
namespace Go.Proofs.YtchoelgkcnnnkaaGreatDoor
open Go.RowKit
/-- Boxes of three cells. -/
def Boxes (w : World) (l : List (Nat × Value × Value × Value)) : Prop := ∀ n a b c, (n, a, b, c) ∈ l → Box3 w n a b c 48
theorem Boxes.keep {w w' : World} {l : List (Nat × Value × Value × Value)} (h : Boxes w l) (hb : Below w.heap.size w w') : Boxes w' l := fun n a b c hm => (h n a b c hm).keep hb
theorem Boxes.new {w : World} {l : List (Nat × Value × Value × Value)} (h : Boxes w l) (a b c : Value) : Boxes (w.alloc (.cells #[a, b, c] 48)) ((w.heap.size, a, b, c) :: l) := fun n a' b' c' hm => by
  rcases List.mem_cons.1 hm with e | hm
  · cases e; exact Box3.new w a b c 48
  · exact (h n a' b' c' hm).keep (below1 w _)
theorem Boxes.sub {w : World} {l l' : List (Nat × Value × Value × Value)} (h : Boxes w l) (hs : ∀ p ∈ l', p ∈ l) : Boxes w l' := fun n a b c hm => h n a b c (hs _ hm)
/-- What stands since the beginning. -/
def St (w0 w : World) (l : List (Nat × Value × Value × Value)) : Prop := Boxes w l ∧ Below w0.heap.size w0 w
theorem St.keep {w0 w w' : World} {l : List (Nat × Value × Value × Value)} (h : St w0 w l) (hb : Below w.heap.size w w') : St w0 w' l := ⟨h.1.keep hb, h.2.trans (hb.mono h.2.size)⟩
theorem St.new {w0 w : World} {l : List (Nat × Value × Value × Value)} (h : St w0 w l) (a b c : Value) : St w0 (w.alloc (.cells #[a, b, c] 48)) ((w.heap.size, a, b, c) :: l) := ⟨h.1.new a b c, h.2.trans ((below1 w _).mono h.2.size)⟩
theorem St.sub {w0 w : World} {l l' : List (Nat × Value × Value × Value)} (h : St w0 w l) (hs : ∀ p ∈ l', p ∈ l) : St w0 w l' := ⟨h.1.sub hs, h.2⟩
theorem St.cells {w0 w : World} {l : List (Nat × Value × Value × Value)} (h : St w0 w l) {n : Nat} {a b c : Value} (hm : (n, a, b, c) ∈ l) :
    w.cell? ⟨n, 0, none⟩ = some a ∧ w.cell? ⟨n, 1, none⟩ = some b ∧ w.cell? ⟨n, 2, none⟩ = some c := by
  obtain ⟨h0, h1, h2, _⟩ := (h.1 n a b c hm).cells
  exact ⟨h0, h1, h2⟩
/-- The boxes that a region loads, as a condition on the world. -/
def SB (l : List (Nat × Value × Value × Value)) (X : World) : Prop := Boxes X l
theorem SB.below {X Y : World} {l : List (Nat × Value × Value × Value)} (h : SB l X) (hb : Below X.heap.size X Y) : SB l Y := Boxes.keep h hb
theorem SB.cells {w : World} {l : List (Nat × Value × Value × Value)} (h : SB l w) {n : Nat} {a b c : Value} (hm : (n, a, b, c) ∈ l) :
    w.cell? ⟨n, 0, none⟩ = some a ∧ w.cell? ⟨n, 1, none⟩ = some b ∧ w.cell? ⟨n, 2, none⟩ = some c := by
  obtain ⟨h0, h1, h2, _⟩ := (h n a b c hm).cells
  exact ⟨h0, h1, h2⟩
theorem SB.set {X : World} {l : List (Nat × Value × Value × Value)} (h : SB l X) {k d : Nat} (hl : ∀ p ∈ l, p.1 < k) (hd : k ≤ d) (v0 v1 v2 : Value) :
    SB l (((X.setCell ⟨d, 0, none⟩ v0).setCell ⟨d, 1, none⟩ v1).setCell ⟨d, 2, none⟩ v2) := by
  intro n a b c hm
  have hn : n < k := hl _ hm
  have := h n a b c hm
  unfold Box3 at this ⊢
  rw [Below.heap_setCell _ _ _ _ (by simp; omega), Below.heap_setCell _ _ _ _ (by simp; omega), Below.heap_setCell _ _ _ _ (by simp; omega)]
  exact this
theorem Box3.set {X : World} {d : Nat} {a b c : Value} {T : TypeId} (h : Box3 X d a b c T) (v0 v1 v2 : Value) :
    Box3 (((X.setCell ⟨d, 0, none⟩ v0).setCell ⟨d, 1, none⟩ v1).setCell ⟨d, 2, none⟩ v2) d v0 v1 v2 T :=
  Joins.block_setCell (Joins.block_setCell (Joins.block_setCell h v0) v1) v2
/-- Behind the region: what stood, and the new box. -/
theorem St.more {w0 w X : World} {l : List (Nat × Value × Value × Value)} (h : St w0 w l) (hb : Below w.heap.size w X) {d : Nat} {a b c : Value} (hd : Box3 X d a b c 48) : St w0 X ((d, a, b, c) :: l) := by
  refine ⟨fun n a' b' c' hm => ?_, (h.keep hb).2⟩
  rcases List.mem_cons.1 hm with e | hm
  · cases e; exact hd
  · exact (h.keep hb).1 n a' b' c' hm
namespace Pl
theorem nn_wf : (Fm.un ⟨6, 0, ⟨#[]⟩⟩ (.un ⟨6, 0, ⟨#[]⟩⟩ (.lf ⟨4, 0, ⟨#[116]⟩⟩))).wf := ⟨by decide +kernel, by decide, by decide +kernel, by decide, by decide +kernel, by decide⟩
theorem ch_wf : (Fm.tr ⟨17, 0, ⟨#[]⟩⟩ (.lf ⟨4, 0, ⟨#[116]⟩⟩) (.lf ⟨4, 0, ⟨#[110]⟩⟩) (.lf ⟨4, 0, ⟨#[110, 49]⟩⟩)).wf := ⟨by decide +kernel, by decide, ⟨by decide +kernel, by decide⟩, ⟨by decide +kernel, by decide⟩, ⟨by decide +kernel, by decide⟩⟩
theorem ln_wf : (Fm.un ⟨7, 0, ⟨#[]⟩⟩ (.bi ⟨8, 0, ⟨#[]⟩⟩ (.lf ⟨4, 0, ⟨#[115]⟩⟩) (.lf ⟨4, 0, ⟨#[115, 49]⟩⟩))).wf := ⟨by decide +kernel, by decide, by decide +kernel, by decide, ⟨by decide +kernel, by decide⟩, ⟨by decide +kernel, by decide⟩⟩
end Pl
theorem validV_tr (o : Int) (ho : o = 0 ∨ o = 1) : Pl.validV ⟨2, o, ⟨#[]⟩⟩ = true := by rcases ho with rfl | rfl <;> decide +kernel
theorem ok1 {n : ByteArray} {v : Tm} (h : Pl.validV v = true ∧ v.k = Pl.typeOf n.data.toList) : ∀ (i : Nat) m x, [n][i]? = some m → [v][i]? = some x → Pl.validV x = true ∧ x.k = Pl.typeOf m.data.toList := by
  intro i m x hm hx
  match i, hm, hx with
  | 0, hm, hx => simp at hm hx; subst hm hx; exact h
  | i + 1, hm, _ => simp at hm
theorem okc {n : ByteArray} {v : Tm} {ns : List ByteArray} {vs : List Tm} (h : Pl.validV v = true ∧ v.k = Pl.typeOf n.data.toList) (hr : ∀ (i : Nat) m x, ns[i]? = some m → vs[i]? = some x → Pl.validV x = true ∧ x.k = Pl.typeOf m.data.toList) : ∀ (i : Nat) m x, (n :: ns)[i]? = some m → (v :: vs)[i]? = some x → Pl.validV x = true ∧ x.k = Pl.typeOf m.data.toList := by
  intro i m x hm hx
  match i, hm, hx with
  | 0, hm, hx => simp at hm hx; subst hm hx; exact h
  | i + 1, hm, hx => exact hr i m x (by simpa using hm) (by simpa using hx)
/-- Not of not. -/
theorem val_nn (o : Int) (ho : o = 0 ∨ o = 1) (d d2 : Nat) (X : World) (h8 : X.heap[d]? = some (.cells #[.int .i64 6, .int .i64 0, .string ⟨#[]⟩, .int .i64 6, .int .i64 0, .string ⟨#[]⟩, .int .i64 4, .int .i64 0, .string ⟨#[116]⟩] 24 (0, 0))) (h11 : X.heap[d2]? = some (.cells #[.int .i64 2, .int .i64 o, .string ⟨#[]⟩] 48 (0, 0))) :
    Calls Tryz.prog 28 #[.slice (some ⟨d, 0, none⟩) 3 3, .slice (some ⟨d2, 0, none⟩) 1 1] X fun e w' => e = .returned (.tuple #[.agg #[.int .i64 2, .int .i64 o, .string ⟨#[]⟩], .bool true, .int .i64 0]) ∧ Below X.heap.size X w' := by
  have rA := rowIn_block (T := 24) (ts := [⟨6, 0, ⟨#[]⟩⟩, ⟨6, 0, ⟨#[]⟩⟩, ⟨4, 0, ⟨#[116]⟩⟩]) rfl h8 (by intro t ht; simp at ht; rcases ht with rfl | rfl <;> first | exact Nat.zero_le _ | decide)
  have rB := rowIn_block (T := 48) (ts := [⟨2, o, ⟨#[]⟩⟩]) rfl h11 (by intro t ht; simp at ht; subst ht; exact Nat.zero_le _)
  have hv := value_use (.un ⟨6, 0, ⟨#[]⟩⟩ (.un ⟨6, 0, ⟨#[]⟩⟩ (.lf ⟨4, 0, ⟨#[116]⟩⟩))) [⟨6, 0, ⟨#[]⟩⟩, ⟨6, 0, ⟨#[]⟩⟩, ⟨4, 0, ⟨#[116]⟩⟩] rfl [⟨2, o, ⟨#[]⟩⟩] [⟨#[116]⟩] rfl d 0 3 3 d2 0 1 1 rfl rfl X rA (Nat.le_refl _) rB (Nat.le_refl _) Pl.nn_wf (by decide) (by decide) (by intro h; cases (show (2 : Int) = 0 from h)) rfl (ok1 ⟨validV_tr o ho, rfl⟩) (some ⟨2, o, ⟨#[]⟩⟩) (Lib.hid (by rcases ho with rfl | rfl <;> kernel_rfl))
  exact hv.mono fun e w' h => h
/-- A choice. -/
theorem val_ch (o x y c : Int) (ho : o = 0 ∨ o = 1) (hx : -1000000 ≤ x ∧ x ≤ 1000000) (hy : -1000000 ≤ y ∧ y ≤ 1000000) (hc : c = if o = 1 then x else y) (d d2 : Nat) (X : World) (h8 : X.heap[d]? = some (.cells #[.int .i64 17, .int .i64 0, .string ⟨#[]⟩, .int .i64 4, .int .i64 0, .string ⟨#[116]⟩, .int .i64 4, .int .i64 0, .string ⟨#[110]⟩, .int .i64 4, .int .i64 0, .string ⟨#[110, 49]⟩] 24 (0, 0)))
    (h11 : X.heap[d2]? = some (.cells #[.int .i64 2, .int .i64 o, .string ⟨#[]⟩, .int .i64 1, .int .i64 x, .string ⟨#[]⟩, .int .i64 1, .int .i64 y, .string ⟨#[]⟩] 48 (0, 0))) :
    Calls Tryz.prog 28 #[.slice (some ⟨d, 0, none⟩) 4 4, .slice (some ⟨d2, 0, none⟩) 3 3] X fun e w' => e = .returned (.tuple #[.agg #[.int .i64 1, .int .i64 c, .string ⟨#[]⟩], .bool true, .int .i64 0]) ∧ Below X.heap.size X w' := by
  have rA := rowIn_block (T := 24) (ts := [⟨17, 0, ⟨#[]⟩⟩, ⟨4, 0, ⟨#[116]⟩⟩, ⟨4, 0, ⟨#[110]⟩⟩, ⟨4, 0, ⟨#[110, 49]⟩⟩]) rfl h8 (by intro t ht; simp at ht; rcases ht with rfl | rfl | rfl | rfl <;> first | exact Nat.zero_le _ | decide)
  have rB := rowIn_block (T := 48) (ts := [⟨2, o, ⟨#[]⟩⟩, ⟨1, x, ⟨#[]⟩⟩, ⟨1, y, ⟨#[]⟩⟩]) rfl h11 (by intro t ht; simp at ht; rcases ht with rfl | rfl | rfl <;> exact Nat.zero_le _)
  have hv := value_use (.tr ⟨17, 0, ⟨#[]⟩⟩ (.lf ⟨4, 0, ⟨#[116]⟩⟩) (.lf ⟨4, 0, ⟨#[110]⟩⟩) (.lf ⟨4, 0, ⟨#[110, 49]⟩⟩)) [⟨17, 0, ⟨#[]⟩⟩, ⟨4, 0, ⟨#[116]⟩⟩, ⟨4, 0, ⟨#[110]⟩⟩, ⟨4, 0, ⟨#[110, 49]⟩⟩] rfl [⟨2, o, ⟨#[]⟩⟩, ⟨1, x, ⟨#[]⟩⟩, ⟨1, y, ⟨#[]⟩⟩] [⟨#[116]⟩, ⟨#[110]⟩, ⟨#[110, 49]⟩] (by kernel_rfl) d 0 4 4 d2 0 3 3 rfl rfl X rA (Nat.le_refl _) rB (Nat.le_refl _) Pl.ch_wf (by decide) (by decide) (by intro h; cases (show (1 : Int) = 0 from h)) rfl (okc ⟨validV_tr o ho, rfl⟩ (okc ⟨validV_num x (by omega) (by omega), rfl⟩ (ok1 ⟨validV_num y (by omega) (by omega), rfl⟩))) (some ⟨1, c, ⟨#[]⟩⟩) (Lib.hid (by rcases ho with rfl | rfl <;> (subst hc; kernel_rfl)))
  exact hv.mono fun e w' h => h
/-- The length of a sum of texts. -/
theorem val_ln (s t : ByteArray) (n : Int) (hs : s.size ≤ 40) (ht : t.size ≤ 40) (hn : n = (s ++ t).size) (d d2 : Nat) (X : World) (h8 : X.heap[d]? = some (.cells #[.int .i64 7, .int .i64 0, .string ⟨#[]⟩, .int .i64 8, .int .i64 0, .string ⟨#[]⟩, .int .i64 4, .int .i64 0, .string ⟨#[115]⟩, .int .i64 4, .int .i64 0, .string ⟨#[115, 49]⟩] 24 (0, 0)))
    (h11 : X.heap[d2]? = some (.cells #[.int .i64 3, .int .i64 0, .string s, .int .i64 3, .int .i64 0, .string t] 48 (0, 0))) :
    Calls Tryz.prog 28 #[.slice (some ⟨d, 0, none⟩) 4 4, .slice (some ⟨d2, 0, none⟩) 2 2] X fun e w' => e = .returned (.tuple #[.agg #[.int .i64 1, .int .i64 n, .string ⟨#[]⟩], .bool true, .int .i64 0]) ∧ Below X.heap.size X w' := by
  have rA := rowIn_block (T := 24) (ts := [⟨7, 0, ⟨#[]⟩⟩, ⟨8, 0, ⟨#[]⟩⟩, ⟨4, 0, ⟨#[115]⟩⟩, ⟨4, 0, ⟨#[115, 49]⟩⟩]) rfl h8 (by intro t ht; simp at ht; rcases ht with rfl | rfl | rfl | rfl <;> first | exact Nat.zero_le _ | decide)
  have rB := rowIn_block (T := 48) (ts := [⟨3, 0, s⟩, ⟨3, 0, t⟩]) rfl h11 (by intro u hu; simp at hu; rcases hu with rfl | rfl <;> (simp only; omega))
  have hval : some ⟨1, n, ⟨#[]⟩⟩ = Pl.val (Pl.envOf [⟨#[115]⟩, ⟨#[115, 49]⟩] [⟨3, 0, s⟩, ⟨3, 0, t⟩]) (.un ⟨7, 0, ⟨#[]⟩⟩ (.bi ⟨8, 0, ⟨#[]⟩⟩ (.lf ⟨4, 0, ⟨#[115]⟩⟩) (.lf ⟨4, 0, ⟨#[115, 49]⟩⟩))) := by
    have e1 : Pl.envOf [⟨#[115]⟩, ⟨#[115, 49]⟩] [⟨3, 0, s⟩, ⟨3, 0, t⟩] ⟨#[115]⟩ = Pl.txt s := rfl
    have e2 : Pl.envOf [⟨#[115]⟩, ⟨#[115, 49]⟩] [⟨3, 0, s⟩, ⟨3, 0, t⟩] ⟨#[115, 49]⟩ = Pl.txt t := by
      have h : ¬ ((⟨#[115]⟩ : ByteArray) = ⟨#[115, 49]⟩) := by
        intro h
        have := congrArg (fun s : ByteArray => s.data.toList) h
        simp at this
      simp [Pl.envOf, h, Pl.txt]
    have hsz : (s ++ t).size ≤ 400 := by rw [ByteArray.size_append]; omega
    have e3 : Pl.app 7 (Pl.txt (s ++ t)) Pl.zeroV = some ⟨1, n, ⟨#[]⟩⟩ := by
      subst hn
      exact Pl.app_of rfl (validV_num _ (by omega) (by omega))
    simp only [Pl.val, if_true, e1, e2, Option.bind_some, Pl.app_cat s t hs ht, e3]
  have hv := value_use (.un ⟨7, 0, ⟨#[]⟩⟩ (.bi ⟨8, 0, ⟨#[]⟩⟩ (.lf ⟨4, 0, ⟨#[115]⟩⟩) (.lf ⟨4, 0, ⟨#[115, 49]⟩⟩))) [⟨7, 0, ⟨#[]⟩⟩, ⟨8, 0, ⟨#[]⟩⟩, ⟨4, 0, ⟨#[115]⟩⟩, ⟨4, 0, ⟨#[115, 49]⟩⟩] rfl [⟨3, 0, s⟩, ⟨3, 0, t⟩] [⟨#[115]⟩, ⟨#[115, 49]⟩] (by kernel_rfl) d 0 4 4 d2 0 2 2 rfl rfl X rA (Nat.le_refl _) rB (Nat.le_refl _) Pl.ln_wf (by decide) (by decide) (by intro h; cases (show (1 : Int) = 0 from h)) rfl (okc ⟨Pl.validV_txt s (by omega), rfl⟩ (ok1 ⟨Pl.validV_txt t (by omega), rfl⟩)) (some ⟨1, n, ⟨#[]⟩⟩) (Lib.hid hval)
  exact hv.mono fun e w' h => h
end Go.Proofs.YtchoelgkcnnnkaaGreatDoor
