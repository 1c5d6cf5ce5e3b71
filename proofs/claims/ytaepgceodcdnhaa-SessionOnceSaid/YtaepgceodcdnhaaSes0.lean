/- Sessions: plain. No program is named here. -/
import Derived.Test.YtaepgceodcdnhaaJrn0
namespace Go.Proofs.Ytaepgceodcdnhaa.Ses
open Oct (Part joinRes be getN takeL)
structure Cl where
  q : Nat
  o : Bool
  e : Nat
  h : Bool
  x : List UInt8
  deriving DecidableEq
structure Tb where
  life : Nat
  cs : List (Nat × Cl)
def look : List (Nat × Cl) → Nat → Option Cl
  | [], _ => none
  | (s, c) :: l, k => if s = k then some c else look l k
def put : List (Nat × Cl) → Nat → Cl → List (Nat × Cl)
  | [], s, c => [(s, c)]
  | (s', c') :: l, s, c => if s' = s then (s, c) :: l else (s', c') :: put l s c
def lost (c : Cl) : Cl := if c.o then ⟨c.q, false, 13, false, []⟩ else c
def lose (l : List (Nat × Cl)) : List (Nat × Cl) := l.map fun p => (p.1, lost p.2)
theorem look_put : ∀ (l : List (Nat × Cl)) (s : Nat) (c : Cl) (k : Nat), look (put l s c) k = if k = s then some c else look l k
  | [], s, c, k => by
    show (if s = k then some c else none) = _
    by_cases h : s = k
    · rw [if_pos h, if_pos h.symm]
    · rw [if_neg h, if_neg (fun e => h e.symm)]; rfl
  | (s', c') :: l, s, c, k => by
    show look (if s' = s then (s, c) :: l else (s', c') :: put l s c) k = _
    by_cases h : s' = s
    · subst h
      rw [if_pos rfl]
      show (if s' = k then some c else look l k) = if k = s' then some c else (if s' = k then some c' else look l k)
      by_cases h1 : s' = k
      · rw [if_pos h1, if_pos h1.symm]
      · rw [if_neg h1, if_neg (fun e => h1 e.symm), if_neg h1]
    · rw [if_neg h]
      show (if s' = k then some c' else look (put l s c) k) = if k = s then some c else (if s' = k then some c' else look l k)
      rw [look_put l s c k]
      by_cases h1 : s' = k
      · rw [if_pos h1, if_neg (fun e => h (h1.trans e)), if_pos h1]
      · rw [if_neg h1, if_neg h1]
theorem look_lose : ∀ (l : List (Nat × Cl)) (k : Nat), look (lose l) k = (look l k).map lost
  | [], _ => rfl
  | (s, c) :: l, k => by
    show (if s = k then some (lost c) else look (lose l) k) = Option.map lost (if s = k then some c else look l k)
    rw [look_lose l k]
    by_cases h : s = k
    · rw [if_pos h, if_pos h]; rfl
    · rw [if_neg h, if_neg h]
theorem put_keys : ∀ (l : List (Nat × Cl)) (s : Nat) (c : Cl), (look l s).isSome = true → (put l s c).map (·.1) = l.map (·.1)
  | [], _, _, h => by cases h
  | (s', c') :: l, s, c, h => by
    show List.map (·.1) (if s' = s then (s, c) :: l else (s', c') :: put l s c) = _
    by_cases h1 : s' = s
    · subst h1; rw [if_pos rfl]; rfl
    · rw [if_neg h1]
      show s' :: (put l s c).map (·.1) = s' :: l.map (·.1)
      rw [put_keys l s c (by rw [show look ((s', c') :: l) s = if s' = s then some c' else look l s from rfl, if_neg h1] at h; exact h)]
theorem put_new : ∀ (l : List (Nat × Cl)) (s : Nat) (c : Cl), look l s = none → put l s c = l ++ [(s, c)]
  | [], _, _, _ => rfl
  | (s', c') :: l, s, c, h => by
    have h1 : ¬ s' = s := fun e => by rw [show look ((s', c') :: l) s = if s' = s then some c' else look l s from rfl, if_pos e] at h; cases h
    show (if s' = s then (s, c) :: l else (s', c') :: put l s c) = _
    rw [if_neg h1, put_new l s c (by rw [show look ((s', c') :: l) s = if s' = s then some c' else look l s from rfl, if_neg h1] at h; exact h)]
    rfl
theorem look_mem : ∀ (l : List (Nat × Cl)) (k : Nat), (look l k).isSome = true ↔ k ∈ l.map (·.1)
  | [], k => by simp [look]
  | (s, c) :: l, k => by
    show (if s = k then some c else look l k).isSome = true ↔ k ∈ s :: l.map (·.1)
    rw [List.mem_cons]
    by_cases h : s = k
    · rw [if_pos h]; exact ⟨fun _ => .inl h.symm, fun _ => rfl⟩
    · rw [if_neg h, look_mem l k]
      exact ⟨.inr, fun h' => h'.elim (fun e => absurd e.symm h) id⟩
theorem lose_keys (l : List (Nat × Cl)) : (lose l).map (·.1) = l.map (·.1) := by
  unfold lose
  rw [List.map_map]
  rfl
/-! records -/
inductive Rc
  | live (n : Nat)
  | beg (s q : Nat)
  | fin (s q e : Nat) (h : Bool) (x : List UInt8)
def num (z : Int) (n : Nat) : Part := ⟨1, z, n, ⟨#[]⟩⟩
def text (x : List UInt8) : Part := ⟨2, 0, 0, ⟨x.toArray⟩⟩
def one (b : Bool) : Nat := if b then 1 else 0
def Rc.kind : Rc → Nat
  | .live _ => 1
  | .beg _ _ => 2
  | .fin _ _ _ _ _ => 3
def Rc.parts : Rc → List Part
  | .live n => [num 1 n]
  | .beg s q => [num 4 s, num 4 q]
  | .fin s q e h x => [num 4 s, num 4 q, num 1 e, num 1 (one h), text x]
def Rc.b : Rc → List UInt8
  | .live n => be 1 1 ++ be 1 n
  | .beg s q => be 1 2 ++ (be 4 s ++ be 4 q)
  | .fin s q e h x => be 1 3 ++ (be 4 s ++ (be 4 q ++ (be 1 e ++ (be 1 (one h) ++ (UInt8.ofNat x.length :: x)))))
def Rc.Ok : Rc → Prop
  | .live n => n < 256
  | .beg s q => s < 4294967296 ∧ q < 4294967296
  | .fin s q e _ x => s < 4294967296 ∧ q < 4294967296 ∧ e < 256 ∧ x.length ≤ 255
def step (t : Tb) : Rc → Tb
  | .live n => ⟨n, lose t.cs⟩
  | .beg s q => ⟨t.life, put t.cs s ⟨q, true, 0, false, []⟩⟩
  | .fin s q e h x => ⟨t.life, put t.cs s ⟨q, false, e, h, x⟩⟩
theorem one_lt (b : Bool) : one b < 2 := by cases b <;> decide
theorem num_bytes (k n : Nat) (h1 : 1 ≤ k ∧ k ≤ 8) (h : n < 256 ^ k) : (num k n).bytes = (be k n, 0) := by
  unfold num Part.bytes
  rw [if_pos rfl]
  unfold Oct.numRes
  rw [if_pos (by simp only [Int.toNat_natCast]; omega)]
  rfl
theorem text_bytes (x : List UInt8) (h : x.length ≤ 255) : (text x).bytes = (UInt8.ofNat x.length :: x, 0) := by
  unfold text Part.bytes
  rw [if_neg (by show ¬ (2 : Int) = 1; decide), if_pos rfl]
  have : (⟨x.toArray⟩ : ByteArray).size = x.length := by show x.toArray.size = _; simp
  rw [if_neg (by rw [this]; omega), this]
theorem join_cons (p : Part) (r : List Part) (a b : List UInt8) (h : p.bytes = (b, 0)) : joinRes (p :: r) a = joinRes r (a ++ b) := by
  show (if p.bytes.2 ≠ 0 then ([], p.bytes.2) else joinRes r (a ++ p.bytes.1)) = _
  rw [h]; rfl
theorem Rc.join {r : Rc} (h : r.Ok) : joinRes (num 1 r.kind :: r.parts) [] = (r.b, 0) := by
  have n1 : ∀ n, n < 256 → (num 1 n).bytes = (be 1 n, 0) := fun n h => num_bytes 1 n (by omega) (by omega)
  have n4 : ∀ n, n < 4294967296 → (num 4 n).bytes = (be 4 n, 0) := fun n h => num_bytes 4 n (by omega) (by omega)
  cases r with
  | live n =>
    show joinRes [num 1 1, num 1 n] [] = _
    rw [join_cons _ _ _ _ (n1 1 (by omega)), join_cons _ _ _ _ (n1 n h)]
    rfl
  | beg s q =>
    show joinRes [num 1 2, num 4 s, num 4 q] [] = _
    rw [join_cons _ _ _ _ (n1 2 (by omega)), join_cons _ _ _ _ (n4 s h.1), join_cons _ _ _ _ (n4 q h.2)]
    simp [joinRes, Rc.b]
  | fin s q e b x =>
    show joinRes [num 1 3, num 4 s, num 4 q, num 1 e, num 1 (one b), text x] [] = _
    have := one_lt b
    rw [join_cons _ _ _ _ (n1 3 (by omega)), join_cons _ _ _ _ (n4 s h.1), join_cons _ _ _ _ (n4 q h.2.1), join_cons _ _ _ _ (n1 e h.2.2.1), join_cons _ _ _ _ (n1 _ (by omega)), join_cons _ _ _ _ (text_bytes x h.2.2.2)]
    simp [joinRes, Rc.b]
def Rc.len : Rc → Nat
  | .live _ => 2
  | .beg _ _ => 9
  | .fin _ _ _ _ x => 12 + x.length
theorem Rc.b_len (r : Rc) : r.b.length = r.len := by
  cases r <;> simp [Rc.b, Rc.len, Oct.length_be] <;> omega
theorem Rc.vr {r : Rc} (h : r.Ok) : Jrn.Vr r.b := by
  unfold Jrn.Vr
  rw [r.b_len]
  cases r with
  | live n => exact ⟨by show 1 ≤ 2; omega, by show 2 ≤ 512; omega⟩
  | beg s q => exact ⟨by show 1 ≤ 9; omega, by show 9 ≤ 512; omega⟩
  | fin s q e b x => have := h.2.2.2; exact ⟨by show 1 ≤ 12 + x.length; omega, by show 12 + x.length ≤ 512; omega⟩
/-- reading a number -/
theorem take_num (k n : Nat) (r : List UInt8) : takeL (be k n ++ r) 0 0 k = (be k n, r, 0) := by
  unfold takeL
  rw [if_neg (by decide), if_neg (by omega), if_neg (by rw [List.length_append, Oct.length_be]; omega)]
  have : ((0 : Int) + k).toNat = (be k n).length := by rw [Oct.length_be]; omega
  rw [this, List.take_left, List.drop_left]
  rfl
theorem get_num (k n : Nat) (h : n < 256 ^ k) : getN (be k n) = n := Oct.getN_be k n h
/-- reading a text -/
theorem take_text (x : List UInt8) (h : x.length ≤ 255) : takeL (UInt8.ofNat x.length :: x) 0 1 (UInt8.ofNat x.length).toNat = (x, [], 0) := by
  have e : (UInt8.ofNat x.length).toNat = x.length := by rw [UInt8.toNat_ofNat']; omega
  rw [e]
  unfold takeL
  rw [if_neg (by decide), if_neg (by omega), if_neg (by rw [List.length_cons]; omega)]
  have : ((1 : Int) + (x.length : Nat)).toNat = x.length + 1 := by omega
  rw [this]
  simp
/-! the calls that the document's answer tells of -/
def open_ (l : List (Nat × Cl)) : Nat := (l.filter fun p => p.2.o).length
structure Tb.Ok (t : Tb) : Prop where
  n : (t.cs.map (·.1)).Nodup
  s : ∀ p ∈ t.cs, p.1 < 4294967296 ∧ p.2.q < 4294967296 ∧ p.2.e < 256 ∧ p.2.x.length ≤ 255
  l : t.cs.length ≤ 8
end Go.Proofs.Ytaepgceodcdnhaa.Ses
