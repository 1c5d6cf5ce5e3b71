/- Disks and journals: plain. No program is named here. -/
import Derived.Test.YtaepgceodcdnhaaCrc0
import Derived.Test.YtaepgceodcdnhaaOct2
namespace Go.Proofs.Ytaepgceodcdnhaa.Jrn
open Crc (sealL sealL_len le4 crc)
open Oct (be getN)
structure Dk where
  b : List UInt8
  n : Nat
  off : Bool
def newD : Dk := ⟨[], 0, false⟩
def rdyE (d : Dk) : Int := if d.off then 10 else 0
def appE (d : Dk) (s : List UInt8) : Int := if d.off then 10 else if 1048576 < d.b.length + s.length then 6 else 0
def appD (d : Dk) (s : List UInt8) : Dk := if appE d s = 0 then { d with b := d.b ++ s } else d
def synD (d : Dk) : Dk := if d.off then d else { d with n := d.b.length }
def keepD (d : Dk) (n : Nat) : Dk := ⟨d.b.take n, n, d.off⟩
def crashN (d : Dk) (k : Int) : Nat := d.n + min (max k 0).toNat (d.b.length - d.n)
def crashD (d : Dk) (k : Int) : Dk := if d.off then d else ⟨d.b.take (crashN d k), crashN d k, true⟩
def startD (d : Dk) : Dk := { d with off := false }
structure Dk.Ok (d : Dk) : Prop where
  n : d.n ≤ d.b.length
  l : d.b.length ≤ 1048576
theorem ok_new : newD.Ok := ⟨Nat.le_refl _, by decide⟩
theorem Dk.Ok.app {d : Dk} (h : d.Ok) (s : List UInt8) : (appD d s).Ok := by
  have h1 := h.n
  have h2 := h.l
  unfold appD
  split
  · rename_i e
    unfold appE at e
    split at e
    · omega
    · split at e
      · omega
      · exact ⟨by show d.n ≤ (d.b ++ s).length; rw [List.length_append]; omega, by show (d.b ++ s).length ≤ _; rw [List.length_append]; omega⟩
  · exact h
theorem Dk.Ok.syn {d : Dk} (h : d.Ok) : (synD d).Ok := by
  unfold synD
  split
  · exact h
  · exact ⟨Nat.le_refl _, h.l⟩
theorem Dk.Ok.keep {d : Dk} (h : d.Ok) {n : Nat} (hn : n ≤ d.b.length) : (keepD d n).Ok := by
  have h2 := h.l
  exact ⟨by show n ≤ (d.b.take n).length; rw [List.length_take]; omega, by show (d.b.take n).length ≤ _; rw [List.length_take]; omega⟩
theorem crashN_le {d : Dk} (h : d.Ok) (k : Int) : crashN d k ≤ d.b.length := by have := h.n; unfold crashN; omega
theorem Dk.Ok.crash {d : Dk} (h : d.Ok) (k : Int) : (crashD d k).Ok := by
  unfold crashD
  split
  · exact h
  · exact (h.keep (crashN_le h k)).casesOn fun a b => ⟨a, b⟩
theorem Dk.Ok.start {d : Dk} (h : d.Ok) : (startD d).Ok := ⟨h.n, h.l⟩
/-! records -/
/-- a record's bytes -/
def frL (l : List UInt8) : List UInt8 := sealL (be 2 l.length ++ l)
theorem frL_len (l : List UInt8) : (frL l).length = l.length + 6 := by rw [frL, sealL_len]; simp [Oct.length_be]; omega
def hdN (s : List UInt8) : Nat := getN (s.take 2)
def Vr (t : List UInt8) : Prop := 1 ≤ t.length ∧ t.length ≤ 512
def firstB (s : List UInt8) : Bool := decide (2 ≤ s.length ∧ 1 ≤ hdN s ∧ hdN s ≤ 512 ∧ hdN s + 6 ≤ s.length ∧ frL ((s.drop 2).take (hdN s)) = s.take (hdN s + 6))
def firstL (s : List UInt8) : Option (List UInt8) := if firstB s then some ((s.drop 2).take (hdN s)) else none
theorem firstL_some {s t : List UInt8} (h : firstL s = some t) : Vr t ∧ t.length = hdN s ∧ t.length + 6 ≤ s.length ∧ s.take (t.length + 6) = frL t := by
  unfold firstL at h
  split at h
  · rename_i hb
    obtain ⟨h1, h2, h3, h4, h5⟩ := of_decide_eq_true hb
    injection h with h
    have hl : t.length = hdN s := by rw [← h, List.length_take, List.length_drop]; omega
    rw [h] at h5
    exact ⟨⟨by omega, by omega⟩, hl, by omega, by rw [hl]; exact h5.symm⟩
  · cases h
theorem hdN_fr (t r : List UInt8) (h : t.length < 65536) : hdN (frL t ++ r) = t.length := by
  unfold hdN frL sealL
  rw [List.append_assoc, List.append_assoc, List.take_append_of_le_length (by simp [Oct.length_be]), List.take_of_length_le (by simp [Oct.length_be])]
  exact Oct.getN_be 2 t.length (by omega)
theorem text_fr (t r : List UInt8) : ((frL t ++ r).drop 2).take t.length = t := by
  unfold frL sealL
  rw [List.append_assoc, List.append_assoc, List.drop_append_of_le_length (by simp [Oct.length_be]), List.drop_of_length_le (by simp [Oct.length_be]), List.nil_append, List.take_append_of_le_length (Nat.le_refl _), List.take_length]
theorem take_fr (t r : List UInt8) : (frL t ++ r).take (t.length + 6) = frL t := by
  rw [← frL_len, List.take_append_of_le_length (Nat.le_refl _), List.take_length]
theorem firstL_fr {t : List UInt8} (h : Vr t) (r : List UInt8) : firstL (frL t ++ r) = some t := by
  have h1 := h.1
  have h2 := h.2
  unfold firstL
  rw [if_pos]
  · rw [hdN_fr t r (by omega), text_fr]
  · unfold firstB
    rw [hdN_fr t r (by omega), text_fr, take_fr]
    refine decide_eq_true ⟨?_, h1, h2, ?_, rfl⟩
    · rw [List.length_append, frL_len]; omega
    · rw [List.length_append, frL_len]; omega
theorem firstL_cut {t : List UInt8} (h : Vr t) {q : Nat} (hq : q < t.length + 6) : firstL ((frL t).take q) = none := by
  have h1 := h.1
  have h2 := h.2
  unfold firstL
  rw [if_neg]
  intro hb
  obtain ⟨a1, a2, a3, a4, _⟩ := of_decide_eq_true hb
  have hl : ((frL t).take q).length = q := by rw [List.length_take, frL_len]; omega
  rw [hl] at a1 a4
  have : hdN ((frL t).take q) = t.length := by
    have e := hdN_fr t [] (by omega)
    rw [List.append_nil] at e
    rw [← e]
    unfold hdN
    rw [List.take_take]
    congr 1
    congr 1
    omega
  omega
theorem firstL_nil : firstL [] = none := by unfold firstL; rw [if_neg]; intro hb; obtain ⟨a1, _⟩ := of_decide_eq_true hb; simp at a1
/-- the records of some bytes, and where they end -/
def recs : Nat → List UInt8 → List (List UInt8) × Nat
  | 0, _ => ([], 0)
  | f + 1, s => match firstL s with
    | none => ([], 0)
    | some t => (t :: (recs f (s.drop (t.length + 6))).1, t.length + 6 + (recs f (s.drop (t.length + 6))).2)
def flat (l : List (List UInt8)) : List UInt8 := l.flatMap frL
theorem flat_snoc (l : List (List UInt8)) (t : List UInt8) : flat (l ++ [t]) = flat l ++ frL t := by simp [flat]
theorem flat_cons (l : List (List UInt8)) (t : List UInt8) : flat (t :: l) = frL t ++ flat l := by simp [flat]
def recA (s : List UInt8) : List (List UInt8) × Nat := recs s.length s
theorem recs_le : ∀ (f : Nat) (s : List UInt8), (recs f s).2 ≤ s.length
  | 0, s => Nat.zero_le _
  | f + 1, s => by
    unfold recs
    cases h : firstL s with
    | none => exact Nat.zero_le _
    | some t =>
      have h1 := firstL_some h
      have := recs_le f (s.drop (t.length + 6))
      rw [List.length_drop] at this
      show t.length + 6 + _ ≤ _
      omega
theorem recs_flat : ∀ (l : List (List UInt8)) (f : Nat) (r : List UInt8), (∀ t ∈ l, Vr t) → l.length ≤ f → (l.length < f → firstL r = none) → recs f (flat l ++ r) = (l, (flat l).length)
  | [], 0, _, _, _, _ => rfl
  | [], f + 1, r, _, _, h => by
    show recs (f + 1) r = ([], 0)
    unfold recs
    rw [h (by simp)]
  | t :: l, 0, _, _, h, _ => by simp at h
  | t :: l, f + 1, r, hv, hl, h => by
    rw [flat_cons, List.append_assoc]
    unfold recs
    rw [firstL_fr (hv t (by simp))]
    have e : (frL t ++ (flat l ++ r)).drop (t.length + 6) = flat l ++ r := by
      rw [← frL_len, List.drop_append_of_le_length (Nat.le_refl _), List.drop_length, List.nil_append]
    dsimp only
    rw [e, recs_flat l f r (fun t ht => hv t (by simp [ht])) (by simpa using hl) (fun hh => h (by simpa using hh))]
    dsimp only
    rw [List.length_append, frL_len]
theorem recs_take : ∀ (f : Nat) (s : List UInt8), s.take (recs f s).2 = flat (recs f s).1 ∧ (∀ t ∈ (recs f s).1, Vr t) ∧ (s.length ≤ f → firstL (s.drop (recs f s).2) = none)
  | 0, s => ⟨rfl, (fun t ht => by cases ht), (fun h => by
    have : s = [] := List.eq_nil_of_length_eq_zero (by omega)
    rw [this]; exact firstL_nil)⟩
  | f + 1, s => by
    unfold recs
    cases h : firstL s with
    | none => exact ⟨rfl, (fun t ht => by cases ht), fun _ => h⟩
    | some t =>
      have h1 := firstL_some h
      obtain ⟨a, b, c⟩ := recs_take f (s.drop (t.length + 6))
      refine ⟨?_, ?_, fun hl => ?_⟩
      · show s.take (t.length + 6 + _) = flat (t :: _)
        rw [flat_cons, ← a, List.take_add, h1.2.2.2]
      · intro u hu
        rcases List.mem_cons.1 hu with rfl | hu
        · exact h1.1
        · exact b u hu
      · have := c (by rw [List.length_drop]; omega)
        rw [List.drop_drop] at this
        exact this
theorem flat_len_ge (l : List (List UInt8)) : l.length ≤ (flat l).length := by
  induction l with
  | nil => exact Nat.le_refl _
  | cons t l ih => rw [flat_cons, List.length_append, frL_len, List.length_cons]; omega
theorem recA_flat {l : List (List UInt8)} {r : List UInt8} (hv : ∀ t ∈ l, Vr t) (hr : firstL r = none) : recA (flat l ++ r) = (l, (flat l).length) :=
  recs_flat l _ r hv (by rw [List.length_append]; have := flat_len_ge l; omega) (fun _ => hr)
theorem recA_take (s : List UInt8) : s.take (recA s).2 = flat (recA s).1 ∧ (∀ t ∈ (recA s).1, Vr t) :=
  ⟨(recs_take _ s).1, (recs_take _ s).2.1⟩
/-- a disk that holds just these records -/
def jd (l : List (List UInt8)) : Dk := ⟨flat l, (flat l).length, false⟩
def Vs (l : List (List UInt8)) : Prop := (∀ t ∈ l, Vr t) ∧ (flat l).length ≤ 1048576
theorem Vs.ok {l : List (List UInt8)} (h : Vs l) : (jd l).Ok := ⟨Nat.le_refl _, h.2⟩
theorem vs_nil : Vs [] := ⟨(fun _ h => by cases h), (by decide)⟩
theorem rec_jd {l : List (List UInt8)} (h : Vs l) : recA (jd l).b = (l, (flat l).length) := by
  have := recA_flat (r := []) h.1 firstL_nil
  rw [List.append_nil] at this
  exact this
theorem keep_jd (l : List (List UInt8)) : keepD (jd l) (flat l).length = jd l := by
  unfold keepD jd
  rw [List.take_length]
theorem appE_jd {l : List (List UInt8)} {s : List UInt8} (h : (flat l).length + s.length + 6 ≤ 1048576) : appE (jd l) (frL s) = 0 := by
  unfold appE
  rw [if_neg (show ¬ (jd l).off = true from Bool.false_ne_true), if_neg]
  rw [frL_len]
  show ¬ 1048576 < (flat l).length + (s.length + 6)
  omega
theorem add_jd {l : List (List UInt8)} {s : List UInt8} (h : (flat l).length + s.length + 6 ≤ 1048576) : synD (appD (jd l) (frL s)) = jd (l ++ [s]) := by
  unfold appD
  rw [if_pos (appE_jd h)]
  unfold synD
  dsimp only
  rw [if_neg (show ¬ (jd l).off = true from Bool.false_ne_true)]
  unfold jd
  rw [flat_snoc]
theorem Vs.snoc {l : List (List UInt8)} {s : List UInt8} (h : Vs l) (hs : Vr s) (h2 : (flat l).length + s.length + 6 ≤ 1048576) : Vs (l ++ [s]) :=
  ⟨fun t ht => by
    rcases List.mem_append.1 ht with ht | ht
    · exact h.1 t ht
    · simp at ht; rw [ht]; exact hs, by rw [flat_snoc, List.length_append, frL_len]; omega⟩
theorem Vs.len {l : List (List UInt8)} (h : Vs l) : l.length ≤ 1048576 := Nat.le_trans (flat_len_ge l) h.2
end Go.Proofs.Ytaepgceodcdnhaa.Jrn
