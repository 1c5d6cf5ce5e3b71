/- Rosters: the document's answer is the same. No program is named here. -/
import Derived.Test.YtidhblpcaccchaaRos0
namespace Go.Proofs.Ytidhblpcaccchaa.Ros
open View (VS WF Mem)
open Lrn (Cmd ap)
structure Ok (r : RS) : Prop where
  w0 : (r.W 0).l = 0
  w : ∀ n, 0 < (r.W n).l → (r.W n).n = n
  l : ∀ n, (r.W n).l ≤ 200
  g : ∀ n, r.G n = c0 ∨ (r.G n).k = 4 ∧ (r.G n).n = n
def lostR (r : RS) (m : Mem) : Bool := if m.life < (r.W m.node).l then true else if (r.W m.node).l = 0 ∨ (r.W m.node).l < m.life then decide (r.su ≤ r.now) else decide (r.su ≤ r.now - (r.W m.node).a)
def remR (r : RS) (v : VS) (m : Mem) : Bool := (ap v (remC m)).2 && (lostR r m && decide (r.wa ≤ r.now - r.S m.node))
def addCR (r : RS) (n : Nat) : Cmd := ⟨1, n, (r.W n).l, 0, 0⟩
def addR (r : RS) (v : VS) (n : Nat) : Bool := (ap v (addCR r n)).2 && (decide (0 < (r.W n).l) && decide (r.now - (r.W n).a ≤ r.su))
def setR (r : RS) (v : VS) (m : Mem) : Bool := !m.ready && ((r.W m.node).l == m.life && ((r.W m.node).e == v.e && (r.W m.node).c))
def grR (r : RS) (v : VS) (m : Mem) : Bool := (r.W m.node).l == m.life && ((r.W m.node).e == v.e && (!((r.W m.node).q == 0) && !((r.G m.node).l == m.life && ((r.G m.node).e == v.e && (r.G m.node).q == (r.W m.node).q))))
def wantR (r : RS) (v : VS) : Option Cmd :=
  match v.ms.find? (remR r v) with
  | some m => some (remC m)
  | none => match [1, 2, 3, 4, 5, 6, 7, 8].find? (addR r v) with
    | some n => some (addCR r n)
    | none => match v.ms.find? (setR r v) with
      | some m => some (setC m)
      | none => (v.ms.find? (grR r v)).map (grC r v)
theorem lost_eq (r : RS) (m : Mem) (h : 1 ≤ m.life) : lost r m = lostR r m := by
  unfold lost lostR has
  by_cases h1 : m.life < (r.W m.node).l
  · rw [if_pos h1]; simp [h1]
  · rw [if_neg h1]
    by_cases h2 : (r.W m.node).l = 0 ∨ (r.W m.node).l < m.life
    · rw [if_pos h2]
      have : ((r.W m.node).l == m.life) = false := by simp; omega
      simp [h1, this]
    · rw [if_neg h2]
      have h3 : (r.W m.node).l = m.life := by omega
      have h4 : 0 < m.life := by omega
      simp [h3, h4]
theorem rem_eq (r : RS) (v : VS) (m : Mem) (h : 1 ≤ m.life) : remB r v m = remR r v m := by
  unfold remB remR
  rw [lost_eq r m h, Bool.and_comm]
  congr 2
  rw [Bool.eq_iff_iff]
  simp
theorem set_eq (r : RS) (v : VS) (m : Mem) (h : 1 ≤ m.life) : setB r v m = setR r v m := by
  unfold setB setR has
  rw [Bool.eq_iff_iff]
  simp only [Bool.and_eq_true, beq_iff_eq, decide_eq_true_eq, Bool.not_eq_true']
  constructor
  · rintro ⟨⟨⟨⟨h1, _⟩, h2⟩, h3⟩, h4⟩; exact ⟨h2, h1, h4, h3⟩
  · rintro ⟨h2, h1, h4, h3⟩; exact ⟨⟨⟨⟨h1, by omega⟩, h2⟩, h3⟩, h4⟩
theorem gr_eq (r : RS) (v : VS) (m : Mem) (h : 1 ≤ m.life) (ho : Ok r) : grB r v m = grR r v m := by
  unfold grB grR has grC
  rw [Bool.eq_iff_iff]
  simp only [Bool.and_eq_true, beq_iff_eq, decide_eq_true_eq, Bool.not_eq_true', beq_eq_false_iff_ne, ne_eq]
  have key : r.G m.node = ⟨4, m.node, m.life, v.e, (r.W m.node).q⟩ ↔ (r.G m.node).l = m.life ∧ (r.G m.node).e = v.e ∧ (r.G m.node).q = (r.W m.node).q := by
    constructor
    · intro e; rw [e]; exact ⟨rfl, rfl, rfl⟩
    · rintro ⟨e1, e2, e3⟩
      rcases ho.g m.node with e | ⟨e4, e5⟩
      · rw [e] at e1; simp [c0] at e1; omega
      · cases hg : r.G m.node with
        | mk k n l e q => rw [hg] at e1 e2 e3 e4 e5; simp only at e1 e2 e3 e4 e5; rw [e1, e2, e3, e4, e5]
  rw [key]
  simp only [← Bool.not_eq_true, Bool.and_eq_true, beq_iff_eq]
  constructor
  · rintro ⟨⟨⟨⟨h1, _⟩, h2⟩, h3⟩, h4⟩; exact ⟨h1, h2, h3, h4⟩
  · rintro ⟨h1, h2, h3, h4⟩; exact ⟨⟨⟨⟨h1, by omega⟩, h2⟩, h3⟩, h4⟩
theorem add_zero (r : RS) (v : VS) (w : Wd) (h : w.l = 0) : addB r v w = false := by simp [addB, h]
theorem add_eq (r : RS) (v : VS) (n : Nat) (ho : Ok r) : addB r v (r.W n) = addR r v n := by
  by_cases h : (r.W n).l = 0
  · rw [add_zero r v _ h]; simp [addR, h]
  · have hn := ho.w n (by omega)
    unfold addB addR addC addCR
    rw [hn, Bool.and_comm]
    congr 1
    rw [Bool.eq_iff_iff]
    simp
    omega
theorem find_congr {α : Type} {p q : α → Bool} : ∀ {l : List α}, (∀ x ∈ l, p x = q x) → l.find? p = l.find? q
  | [], _ => rfl
  | x :: l, h => by
    rw [List.find?_cons, List.find?_cons, h x (by simp), find_congr (l := l) fun y hy => h y (by simp [hy])]
theorem find_map {α β : Type} (f : α → β) (p : β → Bool) (l : List α) : (l.map f).find? p = (l.find? fun a => p (f a)).map f := by
  induction l with
  | nil => rfl
  | cons a l ih =>
    rw [List.map_cons, List.find?_cons, List.find?_cons, ih]
    cases p (f a) <;> rfl
theorem want_eq (r : RS) (v : VS) (h : ∀ m ∈ v.ms, 1 ≤ m.life) (ho : Ok r) : want r v = wantR r v := by
  have e1 : v.ms.find? (remB r v) = v.ms.find? (remR r v) := find_congr fun m hm => rem_eq r v m (h m hm)
  have e3 : v.ms.find? (setB r v) = v.ms.find? (setR r v) := find_congr fun m hm => set_eq r v m (h m hm)
  have e4 : v.ms.find? (grB r v) = v.ms.find? (grR r v) := find_congr fun m hm => gr_eq r v m (h m hm) ho
  have e2 : (words r).find? (addB r v) = ([1, 2, 3, 4, 5, 6, 7, 8].find? (addR r v)).map r.W := by
    have : words r = r.W 0 :: [1, 2, 3, 4, 5, 6, 7, 8].map r.W := rfl
    rw [this, List.find?_cons, add_zero r v _ ho.w0, find_map]
    exact congrArg (Option.map r.W) (find_congr fun n _ => add_eq r v n ho)
  unfold want wantR
  rw [e1, e2, e3, e4]
  cases v.ms.find? (remR r v) with
  | some m => rfl
  | none =>
    dsimp only
    cases hf : [1, 2, 3, 4, 5, 6, 7, 8].find? (addR r v) with
    | none => rfl
    | some n =>
      have hp := List.find?_some hf
      have hn : (r.W n).n = n := ho.w n (by simp [addR] at hp; omega)
      show some (addC (r.W n)) = some (addCR r n)
      simp [addC, addCR, hn]
end Go.Proofs.Ytidhblpcaccchaa.Ros
