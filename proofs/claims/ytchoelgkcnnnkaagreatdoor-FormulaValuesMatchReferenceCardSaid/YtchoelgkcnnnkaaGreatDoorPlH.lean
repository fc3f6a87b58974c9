/- PLAIN LAWS on formulas as trees and as lists of terms: which lists are formulas, read from the front, and from the end with a pile of depths. · PLAIN LAWS: the text of a formula. · PLAIN DEFINITIONS: reading the text of a formula; no program is in sight. · PLAIN LAWS: decimal numerals, written and read. · PLAIN LAWS: what the reader of a formula's text does: how far it comes, and that it looks no farther than the byte behind. · PLAIN LAWS: the reader of a formula's text looks no farther than the place that it comes to: two texts that agree up to there are read alike. -/
import Derived.Test.YtchoelgkcnnnkaaGreatDoorPlB
import Derived.Lib.ItoaNum
import Derived.Lib.AtoiAllCases
namespace Go.Proofs.YtchoelgkcnnnkaaGreatDoor

/-- A formula as a tree: a term and its operands. -/
inductive Fm where
  | lf (t : Tm)
  | un (t : Tm) (a : Fm)
  | bi (t : Tm) (a b : Fm)
  | tr (t : Tm) (a b c : Fm)

namespace Fm
def hd : Fm → Tm
  | lf t => t
  | un t _ => t
  | bi t _ _ => t
  | tr t _ _ _ => t
def flat : Fm → List Tm
  | lf t => [t]
  | un t a => t :: a.flat
  | bi t a b => t :: (a.flat ++ b.flat)
  | tr t a b c => t :: (a.flat ++ (b.flat ++ c.flat))
def depth : Fm → Nat
  | lf _ => 1
  | un _ a => a.depth + 1
  | bi _ a b => max a.depth b.depth + 1
  | tr _ a b c => max a.depth (max b.depth c.depth) + 1
def wf : Fm → Prop
  | lf t => Pl.formed t = true ∧ Pl.operandsOf t.k = 0
  | un t a => Pl.formed t = true ∧ Pl.operandsOf t.k = 1 ∧ a.wf
  | bi t a b => Pl.formed t = true ∧ Pl.operandsOf t.k = 2 ∧ a.wf ∧ b.wf
  | tr t a b c => Pl.formed t = true ∧ Pl.operandsOf t.k = 3 ∧ a.wf ∧ b.wf ∧ c.wf
theorem flat_pos (f : Fm) : 1 ≤ f.flat.length := by cases f <;> simp [flat]
theorem flat_ne (f : Fm) : f.flat ≠ [] := by cases f <;> simp [flat]
theorem depth_pos (f : Fm) : 1 ≤ f.depth := by cases f <;> simp [depth]
end Fm

namespace Pl
theorem formed_operands (t : Tm) (h : formed t = true) : 0 ≤ operandsOf t.k := by
  unfold formed at h
  unfold operandsOf at *
  (repeat' split at h) <;> simp at h <;> (repeat' split) <;> omega

/-- So many formulas are read, one after the other. -/
def restN (rd : List Tm → Option (List Tm)) : Nat → List Tm → Option (List Tm)
  | 0, ts => some ts
  | n + 1, ts => (rd ts).bind (restN rd n)
/-- What is left behind a formula that is at most so deep. -/
def rest : Nat → List Tm → Option (List Tm)
  | 0, _ => none
  | _ + 1, [] => none
  | d + 1, t :: r => if formed t then restN (rest d) (operandsOf t.k).toNat r else none

theorem rest_flat : ∀ (f : Fm) (d : Nat) (r : List Tm), f.wf → f.depth ≤ d → rest d (f.flat ++ r) = some r
  | .lf t, d, r, hw, hd => by
    obtain ⟨d, rfl⟩ : ∃ e, d = e + 1 := ⟨d - 1, by simp [Fm.depth] at hd; omega⟩
    obtain ⟨h1, h2⟩ := hw
    simp [Fm.flat, rest, h1, h2, restN]
  | .un t a, d, r, hw, hd => by
    obtain ⟨d, rfl⟩ : ∃ e, d = e + 1 := ⟨d - 1, by simp [Fm.depth] at hd; omega⟩
    obtain ⟨h1, h2, h3⟩ := hw
    have ea := rest_flat a d r h3 (by simp [Fm.depth] at hd; omega)
    simp [Fm.flat, rest, h1, h2, restN, ea]
  | .bi t a b, d, r, hw, hd => by
    obtain ⟨d, rfl⟩ : ∃ e, d = e + 1 := ⟨d - 1, by simp [Fm.depth] at hd; omega⟩
    obtain ⟨h1, h2, h3, h4⟩ := hw
    have ea := rest_flat a d (b.flat ++ r) h3 (by simp [Fm.depth] at hd; omega)
    have eb := rest_flat b d r h4 (by simp [Fm.depth] at hd; omega)
    simp [Fm.flat, rest, h1, h2, restN, ea, eb]
  | .tr t a b c, d, r, hw, hd => by
    obtain ⟨d, rfl⟩ : ∃ e, d = e + 1 := ⟨d - 1, by simp [Fm.depth] at hd; omega⟩
    obtain ⟨h1, h2, h3, h4, h5⟩ := hw
    have ea := rest_flat a d (b.flat ++ (c.flat ++ r)) h3 (by simp [Fm.depth] at hd; omega)
    have eb := rest_flat b d (c.flat ++ r) h4 (by simp [Fm.depth] at hd; omega)
    have ec := rest_flat c d r h5 (by simp [Fm.depth] at hd; omega)
    simp [Fm.flat, rest, h1, h2, restN, ea, eb, ec]

theorem operandsOf_cases (k : Int) (h : 0 ≤ operandsOf k) : operandsOf k = 0 ∨ operandsOf k = 1 ∨ operandsOf k = 2 ∨ operandsOf k = 3 := by
  have := operandsOf_range k; omega

theorem rest_some : ∀ (d : Nat) (ts r : List Tm), rest d ts = some r → ∃ f : Fm, f.wf ∧ f.depth ≤ d ∧ ts = f.flat ++ r
  | 0, _, _, h => by simp [rest] at h
  | d + 1, [], _, h => by simp [rest] at h
  | d + 1, t :: ts, r, h => by
    simp only [rest] at h
    by_cases hf : formed t = true
    · rw [if_pos hf] at h
      rcases operandsOf_cases t.k (formed_operands t hf) with e | e | e | e
      · simp [e, restN] at h
        exact ⟨.lf t, ⟨hf, e⟩, by simp [Fm.depth], by simp [Fm.flat, h]⟩
      · simp only [e, show (1 : Int).toNat = 0 + 1 from rfl, restN, Option.bind_eq_some_iff] at h
        obtain ⟨r1, h1, h2⟩ := h
        obtain ⟨a, wa, da, rfl⟩ := rest_some d _ _ h1
        simp at h2
        exact ⟨.un t a, ⟨hf, e, wa⟩, by simp [Fm.depth]; omega, by simp [Fm.flat, h2]⟩
      · simp only [e, show (2 : Int).toNat = 0 + 1 + 1 from rfl, restN, Option.bind_eq_some_iff] at h
        obtain ⟨r1, h1, r2, h2, h3⟩ := h
        obtain ⟨a, wa, da, rfl⟩ := rest_some d _ _ h1
        obtain ⟨b, wb, db, rfl⟩ := rest_some d _ _ h2
        simp at h3
        exact ⟨.bi t a b, ⟨hf, e, wa, wb⟩, by simp [Fm.depth]; omega, by simp [Fm.flat, h3]⟩
      · simp only [e, show (3 : Int).toNat = 0 + 1 + 1 + 1 from rfl, restN, Option.bind_eq_some_iff] at h
        obtain ⟨r1, h1, r2, h2, r3, h3, h4⟩ := h
        obtain ⟨a, wa, da, rfl⟩ := rest_some d _ _ h1
        obtain ⟨b, wb, db, rfl⟩ := rest_some d _ _ h2
        obtain ⟨c, wc, dc, rfl⟩ := rest_some d _ _ h3
        simp at h4
        exact ⟨.tr t a b c, ⟨hf, e, wa, wb, wc⟩, by simp [Fm.depth]; omega, by simp [Fm.flat, h4]⟩
    · rw [if_neg hf] at h
      simp at h

/-- Is a list of terms one formula, at most 12 deep? -/
def whole12 (ts : List Tm) : Bool := match rest 12 ts with | some [] => true | _ => false
def validB (ts : List Tm) : Bool := decide ((ts.length : Int) ≤ 60) && whole12 ts
theorem whole12_iff (ts : List Tm) : whole12 ts = true ↔ ∃ f : Fm, f.wf ∧ f.depth ≤ 12 ∧ ts = f.flat := by
  unfold whole12
  constructor
  · intro h
    split at h
    · rename_i e
      obtain ⟨f, h1, h2, h3⟩ := rest_some _ _ _ e
      exact ⟨f, h1, h2, by simpa using h3⟩
    · simp at h
  · rintro ⟨f, h1, h2, rfl⟩
    have := rest_flat f 12 [] h1 h2
    rw [List.append_nil] at this
    rw [this]
theorem validB_iff (ts : List Tm) : validB ts = true ↔ ts.length ≤ 60 ∧ ∃ f : Fm, f.wf ∧ f.depth ≤ 12 ∧ ts = f.flat := by
  unfold validB
  rw [Bool.and_eq_true, whole12_iff, decide_eq_true_eq]
  exact ⟨fun ⟨a, b⟩ => ⟨by omega, b⟩, fun ⟨a, b⟩ => ⟨by omega, b⟩⟩

/-- The depths of the formulas that are written one after the other, read from the end; the first one in front. -/
def pile : List Tm → Option (List Nat)
  | [] => some []
  | t :: r => (pile r).bind fun p => if formed t && decide (operandsOf t.k ≤ p.length) then some (((p.take (operandsOf t.k).toNat).foldl max 0 + 1) :: p.drop (operandsOf t.k).toNat) else none
def flats (fs : List Fm) : List Tm := fs.flatMap Fm.flat

theorem pile_some : ∀ (ts : List Tm) (p : List Nat), pile ts = some p → ∃ fs : List Fm, (∀ f ∈ fs, f.wf) ∧ p = fs.map Fm.depth ∧ ts = flats fs
  | [], p, h => by
    simp [pile] at h
    exact ⟨[], by simp, by simp [← h], rfl⟩
  | t :: ts, p, h => by
    simp only [pile, Option.bind_eq_some_iff] at h
    obtain ⟨q, hq, h⟩ := h
    obtain ⟨fs, hw, rfl, rfl⟩ := pile_some ts q hq
    by_cases hc : (formed t && decide (operandsOf t.k ≤ ((fs.map Fm.depth).length : Nat))) = true
    · rw [if_pos hc] at h
      simp only [Bool.and_eq_true, decide_eq_true_eq, List.length_map] at hc
      obtain ⟨hf, hl⟩ := hc
      simp only [Option.some.injEq] at h
      rcases operandsOf_cases t.k (formed_operands t hf) with e | e | e | e
      · refine ⟨.lf t :: fs, ?_, ?_, by simp [flats, Fm.flat]⟩
        · intro f hm
          rcases List.mem_cons.1 hm with rfl | hm
          · exact ⟨hf, e⟩
          · exact hw f hm
        · rw [← h]; simp [e, Fm.depth]
      · match fs, hw, hl, h with
        | a :: fs, hw, _, h =>
          refine ⟨.un t a :: fs, ?_, ?_, by simp [flats, Fm.flat]⟩
          · intro f hm
            rcases List.mem_cons.1 hm with rfl | hm
            · exact ⟨hf, e, hw a (by simp)⟩
            · exact hw f (by simp [hm])
          · rw [← h]; simp [e, Fm.depth]
        | [], _, hl, _ => simp at hl; omega
      · match fs, hw, hl, h with
        | a :: b :: fs, hw, _, h =>
          refine ⟨.bi t a b :: fs, ?_, ?_, by simp [flats, Fm.flat]⟩
          · intro f hm
            rcases List.mem_cons.1 hm with rfl | hm
            · exact ⟨hf, e, hw a (by simp), hw b (by simp)⟩
            · exact hw f (by simp [hm])
          · rw [← h]; simp [e, Fm.depth]
        | [_], _, hl, _ => simp at hl; omega
        | [], _, hl, _ => simp at hl; omega
      · match fs, hw, hl, h with
        | a :: b :: c :: fs, hw, _, h =>
          refine ⟨.tr t a b c :: fs, ?_, ?_, by simp [flats, Fm.flat]⟩
          · intro f hm
            rcases List.mem_cons.1 hm with rfl | hm
            · exact ⟨hf, e, hw a (by simp), hw b (by simp), hw c (by simp)⟩
            · exact hw f (by simp [hm])
          · rw [← h]; simp [e, Fm.depth]
        | [_, _], _, hl, _ => simp at hl; omega
        | [_], _, hl, _ => simp at hl; omega
        | [], _, hl, _ => simp at hl; omega
    · rw [if_neg hc] at h
      simp at h

theorem pile_flat : ∀ (f : Fm) (r : List Tm) (p : List Nat), f.wf → pile r = some p → pile (f.flat ++ r) = some (f.depth :: p)
  | .lf t, r, p, ⟨h1, h2⟩, hp => by
    simp [Fm.flat, pile, hp, h1, h2, Fm.depth]
  | .un t a, r, p, ⟨h1, h2, h3⟩, hp => by
    have ea := pile_flat a r p h3 hp
    simp [Fm.flat, pile, ea, h1, h2, Fm.depth]
    omega
  | .bi t a b, r, p, ⟨h1, h2, h3, h4⟩, hp => by
    have eb := pile_flat b r p h4 hp
    have ea := pile_flat a _ _ h3 eb
    simp [Fm.flat, pile, ea, h1, h2, Fm.depth]
    omega
  | .tr t a b c, r, p, ⟨h1, h2, h3, h4, h5⟩, hp => by
    have ec := pile_flat c r p h5 hp
    have eb := pile_flat b _ _ h4 ec
    have ea := pile_flat a _ _ h3 eb
    simp [Fm.flat, pile, ea, h1, h2, Fm.depth]
    omega

/-- Read from the end, a list of terms is a formula exactly if it is one read from the front. -/
def pile12 (ts : List Tm) : Bool := match pile ts with | some [d] => decide ((d : Int) ≤ 12) | _ => false
theorem pile12_eq (ts : List Tm) : pile12 ts = whole12 ts := by
  rw [Bool.eq_iff_iff, whole12_iff]
  unfold pile12
  constructor
  · intro h
    split at h
    · rename_i d e
      obtain ⟨fs, hw, hp, rfl⟩ := pile_some _ _ e
      match fs, hw, hp with
      | [f], hw, hp =>
        simp at hp h
        exact ⟨f, hw f (by simp), by omega, by simp [flats]⟩
      | [], _, hp => simp at hp
      | _ :: _ :: _, _, hp => simp at hp
    · simp at h
  · rintro ⟨f, h1, h2, rfl⟩
    have := pile_flat f [] [] h1 rfl
    rw [List.append_nil] at this
    rw [this]
    simp; omega
end Pl
end Go.Proofs.YtchoelgkcnnnkaaGreatDoor
namespace Go.Proofs.YtchoelgkcnnnkaaGreatDoor
namespace Pl
def opByte (k : Int) : UInt8 := if k = 5 then 45 else if k = 6 then 33 else if k = 7 then 35 else if k = 8 then 43 else if k = 9 then 45 else if k = 10 then 42 else if k = 11 then 47 else if k = 12 then 37 else if k = 13 then 61 else if k = 14 then 60 else if k = 15 then 38 else 124
def leafText (t : Tm) : List UInt8 :=
  if t.k = 1 then Lib.itoa t.n else if t.k = 2 then (if t.n = 0 then [110, 111] else [121, 101, 115]) else if t.k = 3 then 39 :: (t.s.data.toList ++ [39]) else t.s.data.toList
/-- What formula.Print prints. -/
def text : Fm → List UInt8
  | .lf t => leafText t
  | .un t a => opByte t.k :: text a
  | .bi t a b => 40 :: (text a ++ (opByte t.k :: (text b ++ [41])))
  | .tr _ a b c => [63, 40] ++ (text a ++ (44 :: (text b ++ (44 :: (text c ++ [41])))))
theorem decDigits_len : ∀ (k : Nat) (u : Nat), u < 10 ^ (k + 1) → (Lib.decDigits u).length ≤ k + 1
  | 0, u, h => by rw [Lib.decDigits, dif_pos (by simpa using h)]; simp
  | k + 1, u, h => by
    by_cases h' : u < 10
    · rw [Lib.decDigits, dif_pos h']; simp
    · rw [Lib.decDigits, dif_neg h']
      have := decDigits_len k (u / 10) (by rw [Nat.pow_succ] at h; omega)
      simp; omega
theorem typeOf_len (l : List UInt8) (h : 0 < typeOf l) : l.length ≤ 3 := by
  match l with
  | [] | [_] | [_, _] | [_, _, _] => simp
  | _ :: _ :: _ :: _ :: _ => simp [typeOf] at h
theorem leafText_len (t : Tm) (h : formed t = true) (h0 : operandsOf t.k = 0) : (leafText t).length ≤ 42 := by
  have hk := operandsOf_cases t.k (by omega)
  unfold operandsOf at h0
  unfold formed at h
  unfold leafText
  by_cases k1 : t.k = 1
  · simp only [k1, if_true, Bool.and_eq_true, decide_eq_true_eq] at h ⊢
    unfold Lib.itoa
    rw [if_neg (by omega)]
    have := decDigits_len 12 t.n.toNat (by omega)
    omega
  · by_cases k2 : t.k = 2
    · rw [if_neg k1, if_pos k2]
      split <;> simp
    · by_cases k3 : t.k = 3
      · rw [if_neg k1, if_neg k2, if_pos k3] at h ⊢
        simp only [Bool.and_eq_true, decide_eq_true_eq] at h
        have : t.s.size = t.s.data.toList.length := rfl
        simp; omega
      · rw [if_neg k1, if_neg k2, if_neg k3] at h ⊢
        have k4 : t.k = 4 := by
          split at h0
          · omega
          · split at h0
            · omega
            · split at h0
              · omega
              · split at h0 <;> omega
        rw [if_pos k4] at h
        simp only [Bool.and_eq_true, decide_eq_true_eq] at h
        have := typeOf_len _ h.2
        omega
theorem text_len : ∀ f : Fm, f.wf → (text f).length ≤ 45 * f.flat.length
  | .lf t, h => by have := leafText_len t h.1 h.2; simp [text, Fm.flat]; omega
  | .un t a, h => by have := text_len a h.2.2; simp [text, Fm.flat]; omega
  | .bi t a b, h => by have := text_len a h.2.2.1; have := text_len b h.2.2.2; simp [text, Fm.flat]; omega
  | .tr t a b c, h => by have := text_len a h.2.2.1; have := text_len b h.2.2.2.1; have := text_len c h.2.2.2.2; simp [text, Fm.flat]; omega
end Pl
end Go.Proofs.YtchoelgkcnnnkaaGreatDoor
namespace Go.Proofs.YtchoelgkcnnnkaaGreatDoor
namespace Pl
/-- The byte at a place: 0 behind the end. -/
def peekB (s : ByteArray) (p : Nat) : UInt8 := if h : p < s.size then s[p] else 0
/-- Is the byte at a place one of c..'9'? -/
def digAt (c : Int) (s : ByteArray) (p : Nat) : Bool := decide (c ≤ (peekB s p).toNat) && decide (((peekB s p).toNat : Int) ≤ 57)
/-- The first place at which a word is not there. -/
def wantFail (s : ByteArray) : List UInt8 → Nat → Option Nat
  | [], _ => none
  | c :: r, p => if p < s.size ∧ peekB s p = c then wantFail s r (p + 1) else some p
/-- Where the digits end. -/
def numEnd (s : ByteArray) : Nat → Nat → Nat
  | 0, p => p
  | n + 1, p => if digAt 48 s p = true then numEnd s n (p + 1) else p
def numEndOf (s : ByteArray) (p : Nat) : Nat := if peekB s p = 48 then p + 1 else numEnd s s.size (p + 1)
def numVal (l : List UInt8) : Int := match Lib.atoiAll l with | .ok v => v | _ => 1000000000001
def nameEnd (s : ByteArray) (p : Nat) : Nat := if digAt 49 s (p + 1) = true then (if digAt 48 s (p + 2) = true then p + 3 else p + 2) else p + 1
def textEnd (s : ByteArray) : Nat → Nat → Nat
  | 0, p => p
  | n + 1, p => if p < s.size ∧ plainB (peekB s p) = true then textEnd s n (p + 1) else p
/-- What a reader comes to: a formula and the place behind it, or the first place that is not right. -/
inductive Rd where
  | ok (f : Fm) (p : Nat)
  | bad (p : Nat)
/-- The kind of the operator with a sign; 0 if there is none. -/
def kindOf (c : UInt8) : Int := if c.toNat = 43 then 8 else if c.toNat = 45 then 9 else if c.toNat = 42 then 10 else if c.toNat = 47 then 11 else if c.toNat = 37 then 12 else if c.toNat = 61 then 13 else if c.toNat = 60 then 14 else if c.toNat = 38 then 15 else if c.toNat = 124 then 16 else 0
def mk0 (k : Int) : Tm := ⟨k, 0, ⟨#[]⟩⟩
def Rd.then (r : Rd) (g : Fm → Nat → Rd) : Rd := match r with | .ok f p => g f p | .bad p => .bad p
/-- Behind a word. -/
def word (s : ByteArray) (l : List UInt8) (p : Nat) (r : Rd) : Rd := match wantFail s l p with | none => r | some q => .bad q
/-- What formula.Parse's reader does at a place. -/
def rd (s : ByteArray) : Nat → Nat → Rd
  | 0, p => .bad p
  | n + 1, p =>
    if s.size ≤ p then .bad p
    else if digAt 48 s p = true then .ok (.lf ⟨1, numVal (s.extract p (numEndOf s p)).data.toList, ⟨#[]⟩⟩) (numEndOf s p)
    else if (peekB s p).toNat = 121 then word s [121, 101, 115] p (.ok (.lf ⟨2, 1, ⟨#[]⟩⟩) (p + 3))
    else if (peekB s p).toNat = 110 ∧ (peekB s (p + 1)).toNat = 111 then .ok (.lf ⟨2, 0, ⟨#[]⟩⟩) (p + 2)
    else if (peekB s p).toNat = 110 ∨ (peekB s p).toNat = 116 ∨ (peekB s p).toNat = 115 then .ok (.lf ⟨4, 0, s.extract p (nameEnd s p)⟩) (nameEnd s p)
    else if (peekB s p).toNat = 39 then word s [39] (textEnd s s.size (p + 1)) (.ok (.lf ⟨3, 0, s.extract (p + 1) (textEnd s s.size (p + 1))⟩) (textEnd s s.size (p + 1) + 1))
    else if (peekB s p).toNat = 45 then (rd s n (p + 1)).then fun a q => .ok (.un (mk0 5) a) q
    else if (peekB s p).toNat = 33 then (rd s n (p + 1)).then fun a q => .ok (.un (mk0 6) a) q
    else if (peekB s p).toNat = 35 then (rd s n (p + 1)).then fun a q => .ok (.un (mk0 7) a) q
    else if (peekB s p).toNat = 40 then (rd s n (p + 1)).then fun a q =>
      if kindOf (peekB s q) = 0 then .bad q
      else (rd s n (q + 1)).then fun b q2 => word s [41] q2 (.ok (.bi (mk0 (kindOf (peekB s q))) a b) (q2 + 1))
    else if (peekB s p).toNat = 63 then word s [63, 40] p ((rd s n (p + 2)).then fun a q => word s [44] q ((rd s n (q + 1)).then fun b q2 => word s [44] q2 ((rd s n (q2 + 1)).then fun c q3 =>
      word s [41] q3 (.ok (.tr (mk0 17) a b c) (q3 + 1)))))
    else .bad p
end Pl
end Go.Proofs.YtchoelgkcnnnkaaGreatDoor
namespace Go.Proofs.YtchoelgkcnnnkaaGreatDoor
open Go
namespace Pl
def valFrom (acc : Nat) (l : List UInt8) : Nat := l.foldl (fun a c => a * 10 + (c.toNat - 48)) acc
theorem valFrom_nil (acc : Nat) : valFrom acc [] = acc := by unfold valFrom; rw [List.foldl_nil]
theorem valFrom_cons (acc : Nat) (c : UInt8) (r : List UInt8) : valFrom acc (c :: r) = valFrom (acc * 10 + (c.toNat - 48)) r := by unfold valFrom; rw [List.foldl_cons]
def Digs (l : List UInt8) : Prop := ∀ c ∈ l, 48 ≤ c.toNat ∧ c.toNat ≤ 57
theorem valFrom_ge (l : List UInt8) : ∀ acc : Nat, acc ≤ valFrom acc l := by
  induction l with
  | nil => intro acc; exact Nat.le_refl _
  | cons c r ih =>
    intro acc
    have := ih (acc * 10 + (c.toNat - 48))
    rw [valFrom_cons]
    generalize valFrom (acc * 10 + (c.toNat - 48)) r = x at this ⊢
    omega
theorem valFrom_snoc (l : List UInt8) (c : UInt8) (acc : Nat) : valFrom acc (l ++ [c]) = valFrom acc l * 10 + (c.toNat - 48) := by
  unfold valFrom; rw [List.foldl_append, List.foldl_cons, List.foldl_nil]
theorem parse_digits (l : List UInt8) : ∀ (acc : Nat), Digs l → acc < 18446744073709551616 → Lib.parseUint10 acc l = if valFrom acc l < 18446744073709551616 then .ok (valFrom acc l) else .range := by
  induction l with
  | nil => intro acc _ ha; rw [valFrom_nil, if_pos ha]; rfl
  | cons c r ih =>
    intro acc h ha
    have hc := h c (by simp)
    have hr : Digs r := fun d hd => h d (by simp [hd])
    have hg := valFrom_ge r (acc * 10 + (c.toNat - 48))
    have ih' := ih (acc * 10 + (c.toNat - 48)) hr
    rw [valFrom_cons]
    unfold Lib.parseUint10
    rw [if_pos hc]
    generalize valFrom (acc * 10 + (c.toNat - 48)) r = x at hg ih' ⊢
    by_cases h1 : 1844674407370955162 ≤ acc
    · rw [if_pos h1, if_neg (by omega)]
    · rw [if_neg h1]
      by_cases h2 : 18446744073709551616 ≤ acc * 10 + (c.toNat - 48)
      · rw [if_pos h2, if_neg (by omega)]
      · rw [if_neg h2]
        exact ih' (by omega)
theorem atoi_digits (l : List UInt8) (hne : l ≠ []) (h : Digs l) : Lib.atoiAll l = if valFrom 0 l < 9223372036854775808 then .ok (valFrom 0 l : Int) else .range := by
  match l, hne with
  | c :: r, _ =>
    have hc := h c (by simp)
    rw [Lib.atoiAll_plain c r (by omega) (by omega)]
    unfold Lib.parseMag
    rw [if_neg (by simp), parse_digits _ _ h (by omega)]
    by_cases h1 : valFrom 0 (c :: r) < 18446744073709551616
    · rw [if_pos h1]
      simp only [Lib.signless]
      by_cases h2 : valFrom 0 (c :: r) < 9223372036854775808
      · rw [if_pos h2, if_neg (by omega)]
      · rw [if_neg h2, if_pos (by omega)]
    · rw [if_neg h1]
      simp only [Lib.signless]
      rw [if_neg (by omega)]
theorem ofNat_dig (k : Nat) (h : k < 10) : (UInt8.ofNat (48 + k)).toNat = 48 + k := by
  rw [UInt8.toNat_ofNat']; omega
theorem decDigits_digs (u : Nat) : Digs (Lib.decDigits u) := by
  rw [Lib.decDigits]
  split
  · intro c hc
    rw [List.mem_singleton] at hc; subst hc
    rw [ofNat_dig _ (by omega)]; omega
  · intro c hc
    rw [List.mem_append] at hc
    rcases hc with hc | hc
    · exact decDigits_digs (u / 10) c hc
    · rw [List.mem_singleton] at hc; subst hc
      rw [ofNat_dig _ (by omega)]; omega
termination_by u
decreasing_by omega
theorem decDigits_val (u : Nat) : valFrom 0 (Lib.decDigits u) = u := by
  rw [Lib.decDigits]
  split
  · rw [valFrom_cons, valFrom_nil, ofNat_dig _ (by omega)]; omega
  · rw [valFrom_snoc, decDigits_val (u / 10), ofNat_dig _ (by omega)]; omega
termination_by u
decreasing_by omega
theorem decDigits_ne (u : Nat) : Lib.decDigits u ≠ [] := by
  rw [Lib.decDigits]; split <;> simp
/-- No numeral begins with 0, but that of 0. -/
theorem decDigits_head (u : Nat) (h : u ≠ 0) : ∃ c r, Lib.decDigits u = c :: r ∧ c.toNat ≠ 48 := by
  rw [Lib.decDigits]
  split
  · exact ⟨_, [], rfl, by rw [ofNat_dig _ (by omega)]; omega⟩
  · obtain ⟨c, r, e, hc⟩ := decDigits_head (u / 10) (by omega)
    exact ⟨c, r ++ [UInt8.ofNat (48 + u % 10)], by rw [e]; rfl, hc⟩
termination_by u
decreasing_by omega
/-- Digits that do not begin with 0 are the numeral of what they spell. -/
theorem decDigits_of : ∀ (n : Nat) (l : List UInt8), l.length = n → l ≠ [] → Digs l → (∀ c r, l = c :: r → r ≠ [] → c.toNat ≠ 48) → Lib.decDigits (valFrom 0 l) = l := by
  intro n
  induction n with
  | zero => intro l hl hne; simp at hl; exact absurd hl hne
  | succ n ih =>
    intro l hl hne hd hh
    obtain ⟨r, c, rfl⟩ : ∃ r c, l = r ++ [c] := ⟨l.dropLast, l.getLast hne, (List.dropLast_concat_getLast hne).symm⟩
    have hc := hd c (by simp)
    rw [valFrom_snoc]
    by_cases hr : r = []
    · subst hr
      rw [Lib.decDigits, dif_pos (by rw [valFrom_nil]; omega)]
      rw [valFrom_nil]
      have : UInt8.ofNat (48 + (0 * 10 + (c.toNat - 48))) = c := by
        apply UInt8.toNat_inj.1
        rw [ofNat_dig _ (by omega)]; omega
      rw [this]; rfl
    · have hrd : Digs r := fun d hd' => hd d (by simp [hd'])
      have e := ih r (by simp at hl; exact hl) hr hrd (fun c' r' he hr' => hh c' (r' ++ [c]) (by rw [he]; rfl) (by simp))
      obtain ⟨d, r', he⟩ : ∃ d r', r = d :: r' := by cases r with | nil => exact absurd rfl hr | cons d r' => exact ⟨d, r', rfl⟩
      have hd48 := hh d (r' ++ [c]) (by rw [he]; rfl) (by simp)
      have hdd := hrd d (by rw [he]; simp)
      have hge : d.toNat - 48 ≤ valFrom 0 r := by
        rw [he, valFrom_cons]
        have := valFrom_ge r' (0 * 10 + (d.toNat - 48)); omega
      rw [Lib.decDigits, dif_neg (by omega)]
      have e1 : (valFrom 0 r * 10 + (c.toNat - 48)) / 10 = valFrom 0 r := by omega
      have e2 : (valFrom 0 r * 10 + (c.toNat - 48)) % 10 = c.toNat - 48 := by omega
      rw [e1, e2, e]
      have : UInt8.ofNat (48 + (c.toNat - 48)) = c := by
        apply UInt8.toNat_inj.1
        rw [ofNat_dig _ (by omega)]; omega
      rw [this]
end Pl
end Go.Proofs.YtchoelgkcnnnkaaGreatDoor
namespace Go.Proofs.YtchoelgkcnnnkaaGreatDoor
namespace Pl
def Rd.sat (r : Rd) (P : Fm → Nat → Prop) (B : Nat → Prop) : Prop := match r with | .ok f q => P f q | .bad q => B q
theorem Rd.sat_then {r : Rd} {g : Fm → Nat → Rd} {P P' : Fm → Nat → Prop} {B B' : Nat → Prop} (h : r.sat P' B') (hb : ∀ q, B' q → B q) (hg : ∀ f q, P' f q → (g f q).sat P B) : (r.then g).sat P B := by
  cases r with
  | ok f q => exact hg f q h
  | bad q => exact hb q h
theorem sat_word {s : ByteArray} {l : List UInt8} {p : Nat} {r : Rd} {P : Fm → Nat → Prop} {B : Nat → Prop} (h : wantFail s l p = none → r.sat P B) (hb : ∀ q, wantFail s l p = some q → B q) : (word s l p r).sat P B := by
  unfold word
  cases e : wantFail s l p with
  | none => exact h e
  | some q => exact hb q e
theorem peek_lt {s : ByteArray} {p : Nat} (h : peekB s p ≠ 0) : p < s.size := by
  unfold peekB at h
  split at h
  · assumption
  · exact absurd rfl h
theorem peek_lt' {s : ByteArray} {p : Nat} {k : Nat} (h : (peekB s p).toNat = k) (hk : k ≠ 0) : p < s.size := by
  refine peek_lt fun e => ?_
  rw [e] at h; exact hk h.symm
theorem dig_lt {c : Int} {s : ByteArray} {p : Nat} (h : digAt c s p = true) (hc : 0 < c) : p < s.size := by
  refine peek_lt fun e => ?_
  unfold digAt at h
  rw [e] at h
  simp at h
  omega
theorem wantFail_none {s : ByteArray} : ∀ {l : List UInt8} {p : Nat}, wantFail s l p = none → p ≤ s.size → p + l.length ≤ s.size
  | [], p, _, hp => by simpa using hp
  | c :: r, p, h, hp => by
    unfold wantFail at h
    split at h
    · rename_i hc
      have := wantFail_none h (by omega)
      simp; omega
    · cases h
theorem wantFail_some {s : ByteArray} : ∀ {l : List UInt8} {p q : Nat}, wantFail s l p = some q → p ≤ s.size → p ≤ q ∧ q ≤ s.size ∧ q < p + l.length
  | [], p, q, h, hp => by simp [wantFail] at h
  | c :: r, p, q, h, hp => by
    unfold wantFail at h
    split at h
    · rename_i hc
      have := wantFail_some h (by omega)
      simp; omega
    · cases h; simp; omega
theorem numEnd_bounds (s : ByteArray) : ∀ (n p : Nat), p ≤ s.size → p ≤ numEnd s n p ∧ numEnd s n p ≤ s.size
  | 0, p, h => ⟨Nat.le_refl _, h⟩
  | n + 1, p, h => by
    unfold numEnd
    split
    · rename_i hd
      have := numEnd_bounds s n (p + 1) (dig_lt hd (by omega))
      omega
    · exact ⟨Nat.le_refl _, h⟩
theorem numEndOf_bounds (s : ByteArray) (p : Nat) (h : p < s.size) : p < numEndOf s p ∧ numEndOf s p ≤ s.size := by
  unfold numEndOf
  split
  · omega
  · have := numEnd_bounds s s.size (p + 1) h; omega
theorem nameEnd_bounds (s : ByteArray) (p : Nat) (h : p < s.size) : p < nameEnd s p ∧ nameEnd s p ≤ s.size ∧ nameEnd s p ≤ p + 3 := by
  unfold nameEnd
  split
  · rename_i h1
    split
    · rename_i h2
      have := dig_lt h2 (by omega); omega
    · have := dig_lt h1 (by omega); omega
  · omega
theorem textEnd_bounds (s : ByteArray) : ∀ (n p : Nat), p ≤ s.size → p ≤ textEnd s n p ∧ textEnd s n p ≤ s.size
  | 0, p, h => ⟨Nat.le_refl _, h⟩
  | n + 1, p, h => by
    unfold textEnd
    split
    · rename_i hd
      have := textEnd_bounds s n (p + 1) hd.1
      omega
    · exact ⟨Nat.le_refl _, h⟩
/-- How far the reader comes. -/
theorem rd_bounds (s : ByteArray) : ∀ (n p : Nat), p ≤ s.size → (rd s n p).sat (fun f q => p < q ∧ q ≤ s.size ∧ f.flat.length ≤ q - p) (fun q => p ≤ q ∧ q ≤ s.size)
  | 0, p, h => ⟨Nat.le_refl _, h⟩
  | n + 1, p, h => by
    have lf : ∀ (t : Tm) (q : Nat), p < q → q ≤ s.size → Rd.sat (.ok (.lf t) q) (fun f q => p < q ∧ q ≤ s.size ∧ f.flat.length ≤ q - p) (fun q => p ≤ q ∧ q ≤ s.size) := fun t q h1 h2 => ⟨h1, h2, by simp [Fm.flat]; omega⟩
    have bad : ∀ q, p ≤ q → q ≤ s.size → Rd.sat (.bad q) (fun f q => p < q ∧ q ≤ s.size ∧ f.flat.length ≤ q - p) (fun q => p ≤ q ∧ q ≤ s.size) := fun q h1 h2 => ⟨h1, h2⟩
    have un : ∀ k, p < s.size → Rd.sat ((rd s n (p + 1)).then fun a q => .ok (.un k a) q) (fun f q => p < q ∧ q ≤ s.size ∧ f.flat.length ≤ q - p) (fun q => p ≤ q ∧ q ≤ s.size) := by
      intro k hp
      refine Rd.sat_then (rd_bounds s n (p + 1) hp) (fun q hq => by omega) fun a q ha => ?_
      show p < q ∧ q ≤ s.size ∧ _
      simp [Fm.flat]; omega
    unfold rd
    by_cases h1 : s.size ≤ p
    · rw [if_pos h1]; exact bad p (Nat.le_refl _) h
    · rw [if_neg h1]
      have hp : p < s.size := by omega
      by_cases h2 : digAt 48 s p = true
      · rw [if_pos h2]
        have := numEndOf_bounds s p hp
        exact lf _ _ this.1 this.2
      · rw [if_neg h2]
        by_cases h3 : (peekB s p).toNat = 121
        · rw [if_pos h3]
          refine sat_word (fun e => ?_) fun q e => ?_
          · have := wantFail_none e h
            exact lf _ _ (by omega) (by simpa using this)
          · have := wantFail_some e h; omega
        · rw [if_neg h3]
          by_cases h4 : (peekB s p).toNat = 110 ∧ (peekB s (p + 1)).toNat = 111
          · rw [if_pos h4]
            have := peek_lt' h4.2 (by omega)
            exact lf _ _ (by omega) (by omega)
          · rw [if_neg h4]
            by_cases h5 : (peekB s p).toNat = 110 ∨ (peekB s p).toNat = 116 ∨ (peekB s p).toNat = 115
            · rw [if_pos h5]
              have := nameEnd_bounds s p hp
              exact lf _ _ this.1 this.2.1
            · rw [if_neg h5]
              by_cases h6 : (peekB s p).toNat = 39
              · rw [if_pos h6]
                have hb := textEnd_bounds s s.size (p + 1) hp
                refine sat_word (fun e => ?_) fun q e => ?_
                · have := wantFail_none e hb.2
                  exact lf _ _ (by omega) (by simpa using this)
                · have := wantFail_some e hb.2; omega
              · rw [if_neg h6]
                by_cases h7 : (peekB s p).toNat = 45
                · rw [if_pos h7]; exact un _ hp
                · rw [if_neg h7]
                  by_cases h8 : (peekB s p).toNat = 33
                  · rw [if_pos h8]; exact un _ hp
                  · rw [if_neg h8]
                    by_cases h9 : (peekB s p).toNat = 35
                    · rw [if_pos h9]; exact un _ hp
                    · rw [if_neg h9]
                      by_cases h10 : (peekB s p).toNat = 40
                      · rw [if_pos h10]
                        refine Rd.sat_then (rd_bounds s n (p + 1) hp) (fun q hq => by omega) fun a q ha => ?_
                        by_cases hk : kindOf (peekB s q) = 0
                        · rw [if_pos hk]; exact bad q (by omega) (by omega)
                        · rw [if_neg hk]
                          have hq : q < s.size := peek_lt fun e => hk (by rw [e]; rfl)
                          refine Rd.sat_then (rd_bounds s n (q + 1) hq) (fun q hq => by omega) fun b q2 hb => ?_
                          refine sat_word (fun e => ?_) fun q3 e => ?_
                          · have := wantFail_none e hb.2.1
                            show p < q2 + 1 ∧ q2 + 1 ≤ s.size ∧ _
                            simp [Fm.flat] at this ⊢; omega
                          · have := wantFail_some e hb.2.1; omega
                      · rw [if_neg h10]
                        by_cases h11 : (peekB s p).toNat = 63
                        · rw [if_pos h11]
                          refine sat_word (fun e => ?_) fun q e => ?_
                          · have e1 := wantFail_none e h
                            refine Rd.sat_then (rd_bounds s n (p + 2) (by simpa using e1)) (fun q hq => by omega) fun a q ha => ?_
                            refine sat_word (fun e => ?_) fun q' e => ?_
                            · have e2 := wantFail_none e ha.2.1
                              refine Rd.sat_then (rd_bounds s n (q + 1) (by simpa using e2)) (fun q hq => by omega) fun b q2 hb => ?_
                              refine sat_word (fun e => ?_) fun q' e => ?_
                              · have e3 := wantFail_none e hb.2.1
                                refine Rd.sat_then (rd_bounds s n (q2 + 1) (by simpa using e3)) (fun q hq => by omega) fun c q3 hc => ?_
                                refine sat_word (fun e => ?_) fun q' e => ?_
                                · have := wantFail_none e hc.2.1
                                  show p < q3 + 1 ∧ q3 + 1 ≤ s.size ∧ _
                                  simp [Fm.flat] at this ⊢; omega
                                · have := wantFail_some e hc.2.1; omega
                              · have := wantFail_some e hb.2.1; omega
                            · have := wantFail_some e ha.2.1; omega
                          · have := wantFail_some e h; omega
                        · rw [if_neg h11]; exact bad p (Nat.le_refl _) h
end Pl
end Go.Proofs.YtchoelgkcnnnkaaGreatDoor
namespace Go.Proofs.YtchoelgkcnnnkaaGreatDoor
namespace Pl
def Rd.pl : Rd → Nat
  | .ok _ q => q
  | .bad q => q
def Agree (s z : ByteArray) (k : Nat) : Prop := k ≤ s.size ∧ k ≤ z.size ∧ ∀ i, i < k → peekB z i = peekB s i
theorem then_pl {r : Rd} {g : Fm → Nat → Rd} (hg : ∀ f q, q ≤ (g f q).pl) : r.pl ≤ (r.then g).pl := by
  cases r with
  | ok f q => exact hg f q
  | bad q => exact Nat.le_refl _
theorem want_pl {s : ByteArray} : ∀ {l : List UInt8} {p q : Nat}, wantFail s l p = some q → p ≤ q
  | [], p, q, h => by simp [wantFail] at h
  | c :: r, p, q, h => by
    unfold wantFail at h
    split at h
    · have := want_pl h; omega
    · cases h; exact Nat.le_refl _
theorem word_pl {s : ByteArray} {l : List UInt8} {p : Nat} {r : Rd} (h : p ≤ r.pl) : p ≤ (word s l p r).pl := by
  unfold word
  cases e : wantFail s l p with
  | none => exact h
  | some q => exact want_pl e
theorem numEnd_ge (s : ByteArray) : ∀ (n p : Nat), p ≤ numEnd s n p
  | 0, p => Nat.le_refl _
  | n + 1, p => by
    unfold numEnd
    split
    · have := numEnd_ge s n (p + 1); omega
    · exact Nat.le_refl _
theorem numEndOf_ge (s : ByteArray) (p : Nat) : p + 1 ≤ numEndOf s p := by
  unfold numEndOf
  split
  · exact Nat.le_refl _
  · exact numEnd_ge _ _ _
theorem textEnd_ge (s : ByteArray) : ∀ (n p : Nat), p ≤ textEnd s n p
  | 0, p => Nat.le_refl _
  | n + 1, p => by
    unfold textEnd
    split
    · have := textEnd_ge s n (p + 1); omega
    · exact Nat.le_refl _
theorem nameEnd_ge (s : ByteArray) (p : Nat) : p + 1 ≤ nameEnd s p := by
  unfold nameEnd; (repeat' split) <;> omega
theorem ite_pl {c : Prop} [Decidable c] {a b : Rd} {p : Nat} (h1 : c → p ≤ a.pl) (h2 : ¬ c → p ≤ b.pl) : p ≤ (if c then a else b).pl := by
  by_cases h : c
  · rw [if_pos h]; exact h1 h
  · rw [if_neg h]; exact h2 h
theorem rd_pl (s : ByteArray) : ∀ (n p : Nat), p ≤ (rd s n p).pl
  | 0, p => Nat.le_refl _
  | n + 1, p => by
    have ih := rd_pl s n
    have un : ∀ k, p ≤ (((rd s n (p + 1)).then fun a q => .ok (.un k a) q)).pl := by
      intro k
      have h1 := ih (p + 1)
      have h2 : (rd s n (p + 1)).pl ≤ ((rd s n (p + 1)).then fun a q => .ok (.un k a) q).pl := then_pl fun f q => Nat.le_refl _
      omega
    unfold rd
    refine ite_pl (fun _ => Nat.le_refl _) fun _ => ?_
    refine ite_pl (fun _ => ?_) fun _ => ?_
    · have := numEndOf_ge s p; simp only [Rd.pl]; omega
    refine ite_pl (fun _ => word_pl (by simp [Rd.pl])) fun _ => ?_
    refine ite_pl (fun _ => by simp [Rd.pl]) fun _ => ?_
    refine ite_pl (fun _ => ?_) fun _ => ?_
    · have := nameEnd_ge s p; simp only [Rd.pl]; omega
    refine ite_pl (fun _ => ?_) fun _ => ?_
    · refine Nat.le_trans ?_ (word_pl (p := textEnd s s.size (p + 1)) (by simp [Rd.pl]))
      have := textEnd_ge s s.size (p + 1); omega
    refine ite_pl (fun _ => un _) fun _ => ?_
    refine ite_pl (fun _ => un _) fun _ => ?_
    refine ite_pl (fun _ => un _) fun _ => ?_
    refine ite_pl (fun _ => ?_) fun _ => ?_
    · refine Nat.le_trans (Nat.le_trans ?_ (ih (p + 1))) (then_pl fun f q => ?_)
      · omega
      · refine ite_pl (fun _ => Nat.le_refl _) fun _ => ?_
        refine Nat.le_trans (Nat.le_trans ?_ (ih (q + 1))) (then_pl fun f q2 => ?_)
        · omega
        · exact word_pl (by simp [Rd.pl])
    refine ite_pl (fun _ => ?_) fun _ => Nat.le_refl _
    · refine word_pl ?_
      refine Nat.le_trans (Nat.le_trans ?_ (ih (p + 2))) (then_pl fun f q => ?_)
      · omega
      · refine word_pl ?_
        refine Nat.le_trans (Nat.le_trans ?_ (ih (q + 1))) (then_pl fun f q2 => ?_)
        · omega
        · refine word_pl ?_
          refine Nat.le_trans (Nat.le_trans ?_ (ih (q2 + 1))) (then_pl fun f q3 => ?_)
          · omega
          · exact word_pl (by simp [Rd.pl])
/-! ### agreement -/
section
variable {s z : ByteArray} {k : Nat}
theorem dig_agree (h : Agree s z k) {c : Int} {p : Nat} (hp : p < k) : digAt c z p = digAt c s p := by unfold digAt; rw [h.2.2 p hp]
theorem want_agree_some (h : Agree s z k) : ∀ {l : List UInt8} {p q : Nat}, wantFail s l p = some q → q < k → wantFail z l p = some q
  | [], p, q, e, hq => by simp [wantFail] at e
  | c :: r, p, q, e, hq => by
    have hp : p < k := Nat.lt_of_le_of_lt (want_pl e) hq
    have hs : p < s.size := Nat.lt_of_lt_of_le hp h.1
    have hz : p < z.size := Nat.lt_of_lt_of_le hp h.2.1
    unfold wantFail at e ⊢
    rw [h.2.2 p hp]
    by_cases hc : peekB s p = c
    · rw [if_pos ⟨hs, hc⟩] at e
      rw [if_pos ⟨hz, hc⟩]
      exact want_agree_some h e hq
    · rw [if_neg (fun x => hc x.2)] at e ⊢
      exact e
theorem want_agree_none (h : Agree s z k) : ∀ {l : List UInt8} {p : Nat}, wantFail s l p = none → p + l.length ≤ k → wantFail z l p = none
  | [], p, e, hq => rfl
  | c :: r, p, e, hq => by
    simp only [List.length_cons] at hq
    have hz : p < z.size := Nat.lt_of_lt_of_le (show p < k by omega) h.2.1
    unfold wantFail at e ⊢
    rw [h.2.2 p (by omega)]
    split at e
    · rename_i hc
      rw [if_pos ⟨hz, hc.2⟩]
      exact want_agree_none h e (by omega)
    · cases e
theorem word_agree (h : Agree s z k) {l : List UInt8} {p : Nat} {r r' : Rd} (hr : r.pl < k → r' = r) (hl : p + l.length ≤ r.pl) (hk : (word s l p r).pl < k) : word z l p r' = word s l p r := by
  unfold word at hk ⊢
  cases e : wantFail s l p with
  | none =>
    rw [e] at hk
    dsimp only at hk
    rw [want_agree_none h e (by omega)]
    exact hr hk
  | some q =>
    rw [e] at hk
    rw [want_agree_some h e hk]
theorem then_agree {r r' : Rd} {g g' : Fm → Nat → Rd} (hr : r.pl < k → r' = r) (hp : ∀ f q, q ≤ (g f q).pl) (hg : ∀ f q, r = .ok f q → (g f q).pl < k → g' f q = g f q) (hk : (r.then g).pl < k) : r'.then g' = r.then g := by
  have h1 := hr (Nat.lt_of_le_of_lt (then_pl hp) hk)
  rw [h1]
  cases r with
  | ok f q => exact hg f q rfl hk
  | bad q => rfl
theorem numEnd_agree (h : Agree s z k) : ∀ (n p : Nat), numEnd s n p < k → numEnd z n p = numEnd s n p
  | 0, p, _ => rfl
  | n + 1, p, hk => by
    have hp : p < k := Nat.lt_of_le_of_lt (numEnd_ge s (n + 1) p) hk
    unfold numEnd at hk ⊢
    rw [dig_agree h hp]
    split at hk
    · rename_i hd
      rw [if_pos hd, if_pos hd]
      exact numEnd_agree h n (p + 1) hk
    · rename_i hd
      rw [if_neg hd, if_neg hd]
/-- With so much fuel it does not matter how much. -/
theorem numEnd_fuel (s : ByteArray) : ∀ (n m p : Nat), s.size ≤ p + n → s.size ≤ p + m → numEnd s n p = numEnd s m p
  | 0, 0, _, _, _ => rfl
  | 0, m + 1, p, h, _ => by
    unfold numEnd
    rw [if_neg fun hd => by have := dig_lt hd (by omega); omega]
  | n + 1, 0, p, _, h => by
    unfold numEnd
    rw [if_neg fun hd => by have := dig_lt hd (by omega); omega]
  | n + 1, m + 1, p, h, h' => by
    unfold numEnd
    split
    · exact numEnd_fuel s n m (p + 1) (by omega) (by omega)
    · rfl
theorem numEndOf_agree (h : Agree s z k) {p : Nat} (hk : numEndOf s p < k) : numEndOf z p = numEndOf s p := by
  have hp : p < k := Nat.lt_of_lt_of_le (numEndOf_ge s p) (Nat.le_of_lt hk)
  unfold numEndOf at hk ⊢
  rw [h.2.2 p hp]
  split at hk
  · rename_i h0; rw [if_pos h0, if_pos h0]
  · rename_i h0
    rw [if_neg h0, if_neg h0]
    have e1 := numEnd_fuel s s.size (s.size + z.size) (p + 1) (by omega) (by omega)
    have e2 := numEnd_fuel z z.size (s.size + z.size) (p + 1) (by omega) (by omega)
    rw [e2, e1]
    rw [e1] at hk
    exact numEnd_agree h _ _ hk
theorem textEnd_agree (h : Agree s z k) : ∀ (n p : Nat), textEnd s n p < k → textEnd z n p = textEnd s n p
  | 0, p, _ => rfl
  | n + 1, p, hk => by
    have hp : p < k := Nat.lt_of_le_of_lt (textEnd_ge s (n + 1) p) hk
    have hs : p < s.size := Nat.lt_of_lt_of_le hp h.1
    have hz : p < z.size := Nat.lt_of_lt_of_le hp h.2.1
    unfold textEnd at hk ⊢
    rw [h.2.2 p hp]
    by_cases hd : plainB (peekB s p) = true
    · rw [if_pos ⟨hs, hd⟩] at hk
      rw [if_pos ⟨hz, hd⟩, if_pos ⟨hs, hd⟩]
      exact textEnd_agree h n (p + 1) hk
    · rw [if_neg (fun x => hd x.2), if_neg (fun x => hd x.2)]
theorem textEnd_fuel (s : ByteArray) : ∀ (n m p : Nat), s.size ≤ p + n → s.size ≤ p + m → textEnd s n p = textEnd s m p
  | 0, 0, _, _, _ => rfl
  | 0, m + 1, p, h, _ => by
    unfold textEnd
    rw [if_neg fun hd => by have := hd.1; omega]
  | n + 1, 0, p, _, h => by
    unfold textEnd
    rw [if_neg fun hd => by have := hd.1; omega]
  | n + 1, m + 1, p, h, h' => by
    unfold textEnd
    split
    · exact textEnd_fuel s n m (p + 1) (by omega) (by omega)
    · rfl
theorem textEndOf_agree (h : Agree s z k) {p : Nat} (hk : textEnd s s.size p < k) : textEnd z z.size p = textEnd s s.size p := by
  have e1 := textEnd_fuel s s.size (s.size + z.size) p (by omega) (by omega)
  have e2 := textEnd_fuel z z.size (s.size + z.size) p (by omega) (by omega)
  rw [e2, e1]
  rw [e1] at hk
  exact textEnd_agree h _ _ hk
theorem nameEnd_agree (h : Agree s z k) {p : Nat} (hk : nameEnd s p < k) : nameEnd z p = nameEnd s p := by
  have hp := nameEnd_ge s p
  unfold nameEnd at hk ⊢
  rw [dig_agree h (show p + 1 < k by unfold nameEnd at hp; omega)]
  by_cases h1 : digAt 49 s (p + 1) = true
  · rw [if_pos h1] at hk ⊢
    rw [if_pos h1]
    rw [dig_agree h (show p + 2 < k by split at hk <;> omega)]
  · rw [if_neg h1, if_neg h1]
theorem getElem_peek {s : ByteArray} {i : Nat} (h : i < s.size) : s.data.toList[i]'(by simpa using h) = peekB s i := by
  unfold peekB; rw [dif_pos h]; rfl
theorem extract_agree (h : Agree s z k) {i j : Nat} (hj : j ≤ k) : z.extract i j = s.extract i j := by
  have h1 := h.1
  have h2 := h.2.1
  apply ByteArray.ext
  apply Array.ext
  · simp only [ByteArray.data_extract, Array.size_extract]
    show min j z.size - i = min j s.size - i
    omega
  · intro m hm hm'
    simp only [ByteArray.data_extract, Array.size_extract] at hm hm'
    have hm2 : i + m < k := by change m < min j z.size - i at hm; omega
    simp only [ByteArray.data_extract, Array.getElem_extract]
    have := h.2.2 (i + m) hm2
    unfold peekB at this
    rw [dif_pos (show i + m < z.size by omega), dif_pos (show i + m < s.size by omega)] at this
    exact this
theorem rd_agree (h : Agree s z k) : ∀ (n p : Nat), (rd s n p).pl < k → rd z n p = rd s n p
  | 0, p, _ => rfl
  | n + 1, p, hk => by
    have ih := rd_agree h n
    have hp : p < k := Nat.lt_of_le_of_lt (rd_pl s (n + 1) p) hk
    have hs : p < s.size := Nat.lt_of_lt_of_le hp h.1
    have hz : p < z.size := Nat.lt_of_lt_of_le hp h.2.1
    unfold rd at hk ⊢
    rw [dig_agree h hp, h.2.2 p hp]
    rw [if_neg (Nat.not_le.2 hs)] at hk
    rw [if_neg (Nat.not_le.2 hz), if_neg (Nat.not_le.2 hs)]
    by_cases h2 : digAt 48 s p = true
    · rw [if_pos h2] at hk ⊢
      rw [if_pos h2]
      simp only [Rd.pl] at hk
      rw [numEndOf_agree h hk, extract_agree h (Nat.le_of_lt hk)]
    rw [if_neg h2] at hk ⊢
    rw [if_neg h2]
    by_cases h3 : (peekB s p).toNat = 121
    · rw [if_pos h3] at hk ⊢
      rw [if_pos h3]
      exact word_agree h (fun _ => rfl) (by simp [Rd.pl]) hk
    rw [if_neg h3] at hk ⊢
    rw [if_neg h3]
    by_cases h110 : (peekB s p).toNat = 110
    · have hp1 : p + 1 < k := by
        by_cases h4 : (peekB s p).toNat = 110 ∧ (peekB s (p + 1)).toNat = 111
        · rw [if_pos h4] at hk
          simp only [Rd.pl] at hk; omega
        · rw [if_neg h4, if_pos (.inl h110)] at hk
          simp only [Rd.pl] at hk
          have := nameEnd_ge s p; omega
      rw [h.2.2 (p + 1) hp1]
      by_cases h4 : (peekB s p).toNat = 110 ∧ (peekB s (p + 1)).toNat = 111
      · rw [if_pos h4, if_pos h4]
      · rw [if_neg h4] at hk ⊢
        rw [if_neg h4]
        rw [if_pos (.inl h110)] at hk ⊢
        rw [if_pos (.inl h110)]
        simp only [Rd.pl] at hk
        rw [nameEnd_agree h hk, extract_agree h (Nat.le_of_lt hk)]
    have h4s : ¬ ((peekB s p).toNat = 110 ∧ (peekB s (p + 1)).toNat = 111) := fun x => h110 x.1
    have h4z : ¬ ((peekB s p).toNat = 110 ∧ (peekB z (p + 1)).toNat = 111) := fun x => h110 x.1
    rw [if_neg h4s] at hk
    rw [if_neg h4z, if_neg h4s]
    by_cases h5 : (peekB s p).toNat = 110 ∨ (peekB s p).toNat = 116 ∨ (peekB s p).toNat = 115
    · rw [if_pos h5] at hk ⊢
      rw [if_pos h5]
      simp only [Rd.pl] at hk
      rw [nameEnd_agree h hk, extract_agree h (Nat.le_of_lt hk)]
    rw [if_neg h5] at hk ⊢
    rw [if_neg h5]
    by_cases h6 : (peekB s p).toNat = 39
    · rw [if_pos h6] at hk ⊢
      rw [if_pos h6]
      have ht : textEnd s s.size (p + 1) < k := Nat.lt_of_le_of_lt (word_pl (by simp [Rd.pl])) hk
      rw [textEndOf_agree h ht, extract_agree h (Nat.le_of_lt ht)]
      exact word_agree h (fun _ => rfl) (by simp [Rd.pl]) hk
    rw [if_neg h6] at hk ⊢
    rw [if_neg h6]
    have un : ∀ t, (((rd s n (p + 1)).then fun a q => .ok (.un t a) q)).pl < k → ((rd z n (p + 1)).then fun a q => .ok (.un t a) q) = ((rd s n (p + 1)).then fun a q => .ok (.un t a) q) :=
      fun t hk => then_agree (ih (p + 1)) (fun f q => Nat.le_refl _) (fun _ _ _ _ => rfl) hk
    by_cases h7 : (peekB s p).toNat = 45
    · rw [if_pos h7] at hk ⊢
      rw [if_pos h7]
      exact un _ hk
    rw [if_neg h7] at hk ⊢
    rw [if_neg h7]
    by_cases h8 : (peekB s p).toNat = 33
    · rw [if_pos h8] at hk ⊢
      rw [if_pos h8]
      exact un _ hk
    rw [if_neg h8] at hk ⊢
    rw [if_neg h8]
    by_cases h9 : (peekB s p).toNat = 35
    · rw [if_pos h9] at hk ⊢
      rw [if_pos h9]
      exact un _ hk
    rw [if_neg h9] at hk ⊢
    rw [if_neg h9]
    by_cases h10 : (peekB s p).toNat = 40
    · rw [if_pos h10] at hk ⊢
      rw [if_pos h10]
      refine then_agree (ih (p + 1)) (fun f q => ?_) (fun a q _ hq => ?_) hk
      · refine ite_pl (fun _ => Nat.le_refl _) fun _ => ?_
        refine Nat.le_trans (Nat.le_trans ?_ (rd_pl s n (q + 1))) (then_pl fun f q2 => ?_)
        · omega
        · exact word_pl (by simp [Rd.pl])
      · have hqk : q < k := by
          refine Nat.lt_of_le_of_lt ?_ hq
          refine ite_pl (fun _ => Nat.le_refl _) fun _ => ?_
          refine Nat.le_trans (Nat.le_trans ?_ (rd_pl s n (q + 1))) (then_pl fun f q2 => ?_)
          · omega
          · exact word_pl (by simp [Rd.pl])
        rw [h.2.2 q hqk]
        by_cases hkk : kindOf (peekB s q) = 0
        · rw [if_pos hkk, if_pos hkk]
        · rw [if_neg hkk] at hq ⊢
          rw [if_neg hkk]
          exact then_agree (ih (q + 1)) (fun f q2 => word_pl (by simp [Rd.pl])) (fun b q2 _ hq2 => word_agree h (fun _ => rfl) (by simp [Rd.pl]) hq2) hq
    rw [if_neg h10] at hk ⊢
    rw [if_neg h10]
    by_cases h11 : (peekB s p).toNat = 63
    · rw [if_pos h11] at hk ⊢
      rw [if_pos h11]
      have g3 : ∀ a b q2, q2 ≤ (word s [44] q2 ((rd s n (q2 + 1)).then fun c q3 => word s [41] q3 (.ok (.tr (mk0 17) a b c) (q3 + 1)))).pl := fun a b q2 =>
        word_pl (Nat.le_trans (Nat.le_trans (by omega) (rd_pl s n (q2 + 1))) (then_pl fun f q3 => word_pl (by simp [Rd.pl])))
      have g2 : ∀ a q, q ≤ (word s [44] q ((rd s n (q + 1)).then fun b q2 => word s [44] q2 ((rd s n (q2 + 1)).then fun c q3 => word s [41] q3 (.ok (.tr (mk0 17) a b c) (q3 + 1))))).pl := fun a q =>
        word_pl (Nat.le_trans (Nat.le_trans (by omega) (rd_pl s n (q + 1))) (then_pl fun f q2 => g3 a f q2))
      refine word_agree h (fun hk => ?_) ?_ hk
      · refine then_agree (ih (p + 2)) (fun f q => g2 f q) (fun a q _ hq => ?_) hk
        refine word_agree h (fun hk => ?_) ?_ hq
        · refine then_agree (ih (q + 1)) (fun f q2 => g3 a f q2) (fun b q2 _ hq2 => ?_) hk
          refine word_agree h (fun hk => ?_) ?_ hq2
          · exact then_agree (ih (q2 + 1)) (fun f q3 => word_pl (by simp [Rd.pl])) (fun c q3 _ hq3 => word_agree h (fun _ => rfl) (by simp [Rd.pl]) hq3) hk
          · exact Nat.le_trans (rd_pl s n (q2 + 1)) (then_pl fun f q3 => word_pl (by simp [Rd.pl]))
        · exact Nat.le_trans (rd_pl s n (q + 1)) (then_pl fun f q2 => g3 a f q2)
      · exact Nat.le_trans (rd_pl s n (p + 2)) (then_pl fun f q => g2 f q)
    rw [if_neg h11, if_neg h11]
end
end Pl
end Go.Proofs.YtchoelgkcnnnkaaGreatDoor
