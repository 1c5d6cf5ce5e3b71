/- Frames: plain, a frame in bytes. No program is named here. -/
import Derived.Test.YtaepgceodcdnhaaDoorFrm0
namespace Go.Proofs.YtaepgceodcdnhaaDoor.Frm
open Oct (Part joinRes be getN takeL room)
/-- parts that are these bytes, none of them great -/
structure PB (ps : List Part) (b : List UInt8) : Prop where
  j : ∀ acc, joinRes ps acc = (acc ++ b, 0)
  n : ∀ p ∈ ps, p.n < 4294967296
  s : ∀ p ∈ ps, p.s.size ≤ 255
theorem PB.nil : PB [] [] := ⟨fun acc => by rw [List.append_nil]; rfl, (fun p h => by cases h), (fun p h => by cases h)⟩
theorem PB.app {ps qs : List Part} {a b : List UInt8} (h : PB ps a) (k : PB qs b) : PB (ps ++ qs) (a ++ b) where
  j := by
    have gen : ∀ (ps : List Part) (a acc : List UInt8), joinRes ps acc = (acc ++ a, 0) → joinRes (ps ++ qs) acc = joinRes qs (acc ++ a) := by
      intro ps
      induction ps with
      | nil =>
        intro a acc h
        have : acc = acc ++ a := congrArg Prod.fst h
        rw [← this]; rfl
      | cons p ps ih =>
        intro a acc h
        have h : (if p.bytes.2 ≠ 0 then ([], p.bytes.2) else joinRes ps (acc ++ p.bytes.1)) = (acc ++ a, 0) := h
        show (if p.bytes.2 ≠ 0 then ([], p.bytes.2) else joinRes (ps ++ qs) (acc ++ p.bytes.1)) = _
        by_cases e : p.bytes.2 ≠ 0
        · rw [if_pos e] at h
          exact absurd (congrArg Prod.snd h) e
        · rw [if_neg e] at h
          rw [if_neg e]
          have hx := joinRes_pre ps (acc ++ p.bytes.1)
          rw [h] at hx
          obtain ⟨t, ht⟩ := hx rfl
          have ht : acc ++ a = acc ++ p.bytes.1 ++ t := ht
          rw [ih t (acc ++ p.bytes.1) (by rw [h, ht]), ht]
    exact fun acc => by rw [gen ps a acc (h.j acc), k.j, List.append_assoc]
  n := fun p hp => (List.mem_append.1 hp).elim (h.n p) (k.n p)
  s := fun p hp => (List.mem_append.1 hp).elim (h.s p) (k.s p)
where
  joinRes_pre : ∀ (ps : List Part) (acc : List UInt8), (joinRes ps acc).2 = 0 → ∃ t, (joinRes ps acc).1 = acc ++ t
    | [], acc, _ => ⟨[], (List.append_nil acc).symm⟩
    | p :: ps, acc, h => by
      have h : (if p.bytes.2 ≠ 0 then ([], p.bytes.2) else joinRes ps (acc ++ p.bytes.1)).2 = 0 := h
      show ∃ t, (if p.bytes.2 ≠ 0 then ([], p.bytes.2) else joinRes ps (acc ++ p.bytes.1)).1 = acc ++ t
      by_cases e : p.bytes.2 ≠ 0
      · rw [if_pos e] at h; exact absurd h e
      · rw [if_neg e] at h ⊢
        obtain ⟨t, ht⟩ := joinRes_pre ps _ h
        exact ⟨p.bytes.1 ++ t, by rw [ht, List.append_assoc]⟩
theorem PB.one {p : Part} {b : List UInt8} (h : p.bytes = (b, 0)) (hn : p.n < 4294967296) (hs : p.s.size ≤ 255) : PB [p] b where
  j := fun acc => by
    show (if p.bytes.2 ≠ 0 then ([], p.bytes.2) else joinRes [] (acc ++ p.bytes.1)) = _
    rw [h]; rfl
  n := fun q hq => by rw [List.mem_singleton.1 hq]; exact hn
  s := fun q hq => by rw [List.mem_singleton.1 hq]; exact hs
theorem PB.cons {p : Part} {ps : List Part} {a b : List UInt8} (h : PB [p] a) (k : PB ps b) : PB (p :: ps) (a ++ b) := h.app k
theorem size_mk (x : List UInt8) : (⟨x.toArray⟩ : ByteArray).size = x.length := by show x.toArray.size = _; simp
theorem PB.num1 {n : Nat} (h : n < 256) : PB [num 1 n] (be 1 n) := PB.one (by
  unfold num Part.bytes
  rw [if_pos rfl]
  unfold Oct.numRes
  rw [if_pos ⟨(show (1 : Int) ≤ 1 by decide), (show (1 : Int) ≤ 8 by decide), by show n < 256 ^ 1; omega⟩]; rfl) (by show n < _; omega) (show (0 : Nat) ≤ 255 by decide)
theorem PB.num4 {n : Nat} (h : n < 4294967296) : PB [num 4 n] (be 4 n) := PB.one (by
  unfold num Part.bytes
  rw [if_pos rfl]
  unfold Oct.numRes
  rw [if_pos ⟨(show (1 : Int) ≤ 4 by decide), (show (4 : Int) ≤ 8 by decide), by show n < 256 ^ 4; omega⟩]; rfl) h (show (0 : Nat) ≤ 255 by decide)
theorem PB.txt {x : List UInt8} (h : x.length ≤ 255) : PB [text x] (UInt8.ofNat x.length :: x) := PB.one (by
  unfold text Part.bytes
  rw [if_neg (show ¬ (2 : Int) = 1 by decide), if_pos rfl, if_neg (by show ¬ 255 < (⟨x.toArray⟩ : ByteArray).size; rw [size_mk]; omega)]
  show (UInt8.ofNat (⟨x.toArray⟩ : ByteArray).size :: x, (0 : Int)) = _
  rw [size_mk]) (show (0 : Nat) < 4294967296 by decide) (by show (⟨x.toArray⟩ : ByteArray).size ≤ 255; rw [size_mk]; exact h)
theorem PB.rw {x : List UInt8} (h : x.length ≤ 255) : PB [raw x] x := PB.one (by
  unfold raw Part.bytes
  rw [if_neg (show ¬ (3 : Int) = 1 by decide), if_neg (show ¬ (3 : Int) = 2 by decide), if_pos rfl]) (show (0 : Nat) < 4294967296 by decide) (by show (⟨x.toArray⟩ : ByteArray).size ≤ 255; rw [size_mk]; exact h)
theorem one_lt (b : Bool) : one b < 256 := by cases b <;> decide
theorem Cmd.Ok.pb {c : Cmd} (h : c.Ok) : PB c.ps c.bs := (PB.num1 h.k).cons ((PB.num1 h.n).cons ((PB.num1 h.l).cons ((PB.num4 h.e).cons (PB.num4 h.q))))
theorem Mem.Ok.pb {m : Mem} (h : m.Ok) : PB m.ps m.bs := (PB.num1 h.n).cons ((PB.num1 h.l).cons (PB.num1 (one_lt _)))
theorem Ent.Ok.pb {x : Ent} (h : x.Ok) : PB x.ps x.bs := (PB.num4 h.s).cons ((PB.num4 h.n).cons ((PB.num1 h.b).cons h.c.pb))
theorem PB.flat {α : Type} {P : α → List Part} {B : α → List UInt8} : ∀ (l : List α), (∀ x ∈ l, PB (P x) (B x)) → PB (l.flatMap P) (l.flatMap B)
  | [], _ => PB.nil
  | x :: l, h => by rw [List.flatMap_cons, List.flatMap_cons]; exact (h x (by simp)).app (PB.flat l fun y hy => h y (by simp [hy]))
theorem Fm.Ok.pb {f : Fm} (h : f.Ok) (c : Nat) (hm : f.may c = true) : PB (f.ps c) (f.fb c) := by
  unfold Fm.ps Fm.fb
  by_cases h1 : c = 101
  · rw [if_pos h1, if_pos h1]; exact PB.num4 h.ep
  rw [if_neg h1, if_neg h1]
  by_cases h1 : c = 107
  · rw [if_pos h1, if_pos h1]; exact PB.num1 h.key
  rw [if_neg h1, if_neg h1]
  by_cases h1 : c = 115
  · rw [if_pos h1, if_pos h1]; exact (PB.num4 h.sn).cons ((PB.num1 h.sb).cons (PB.num1 h.sl))
  rw [if_neg h1, if_neg h1]
  by_cases h1 : c = 118
  · rw [if_pos h1, if_pos h1]
    subst h1
    have hm : valOk f.has f.x = true := hm
    unfold valOk at hm
    have : f.x.length ≤ 32 := by simp at hm; exact hm.1
    exact (PB.num1 (one_lt _)).cons (PB.txt (by omega))
  rw [if_neg h1, if_neg h1]
  by_cases h1 : c = 114
  · rw [if_pos h1, if_pos h1]; exact PB.num1 (one_lt _)
  rw [if_neg h1, if_neg h1]
  by_cases h1 : c = 102
  · rw [if_pos h1, if_pos h1]; exact PB.num1 (one_lt _)
  rw [if_neg h1, if_neg h1]
  by_cases h1 : c = 100
  · rw [if_pos h1, if_pos h1]; exact PB.num1 h.dir
  rw [if_neg h1, if_neg h1]
  by_cases h1 : c = 108
  · rw [if_pos h1, if_pos h1]; exact PB.num1 h.life
  rw [if_neg h1, if_neg h1]
  by_cases h1 : c = 113
  · rw [if_pos h1, if_pos h1]; exact PB.num4 h.req
  rw [if_neg h1, if_neg h1]
  by_cases h1 : c = 98
  · rw [if_pos h1, if_pos h1]; exact (PB.num4 h.bn).cons (PB.num1 h.bb)
  rw [if_neg h1, if_neg h1]
  by_cases h1 : c = 110
  · rw [if_pos h1, if_pos h1]; exact PB.num4 h.slot
  rw [if_neg h1, if_neg h1]
  by_cases h1 : c = 99
  · rw [if_pos h1, if_pos h1]; exact h.c.pb
  rw [if_neg h1, if_neg h1]
  by_cases h1 : c = 119
  · rw [if_pos h1, if_pos h1]
    exact (PB.num4 h.ve).cons ((PB.num1 (by have := h.ms; omega)).cons ((PB.flat f.ms fun m hm => (h.mo m hm).pb).app (PB.rw (by show (8 : Nat) ≤ 255; decide))))
  · rw [if_neg h1, if_neg h1]
    exact (PB.num1 (by have := h.es; omega)).cons (PB.flat f.es fun m hm => (h.eo m hm).pb)
/-- a frame's head, and all of it -/
def Fm.hps (f : Fm) : List Part := [num 1 f.kind, num 1 f.frm, num 1 f.to]
def Fm.hb (f : Fm) : List UInt8 := be 1 f.kind ++ (be 1 f.frm ++ be 1 f.to)
theorem Fm.Ok.hpb {f : Fm} (h : f.Ok) : PB f.hps f.hb := (PB.num1 h.kind).cons ((PB.num1 h.frm).cons (PB.num1 h.to))
def hasKind (k : Nat) : Bool := decide (1 ≤ k ∧ k < 17)
/-- may a frame be? -/
def Fm.good (f : Fm) : Bool := hasKind f.kind && (lets f.kind).all f.may
def Fm.bytes (f : Fm) : List UInt8 := f.hb ++ (lets f.kind).flatMap f.fb
/-- what Encode tells -/
def Fm.enc (f : Fm) : List UInt8 × Int := if f.good = true then (Crc.sealL f.bytes, 0) else ([], 4)
theorem Fm.Ok.all_pb {f : Fm} (h : f.Ok) (l : List Nat) (hl : ∀ c ∈ l, f.may c = true) : PB (f.hps ++ l.flatMap f.ps) (f.hb ++ l.flatMap f.fb) := h.hpb.app (PB.flat l fun c hc => h.pb c (hl c hc))
theorem be1_len (n : Nat) : (be 1 n).length = 1 := Oct.length_be 1 n
theorem be4_len (n : Nat) : (be 4 n).length = 4 := Oct.length_be 4 n
theorem flat_le {α β : Type} {f : α → List β} {k : Nat} : ∀ (l : List α), (∀ x ∈ l, (f x).length ≤ k) → (l.flatMap f).length ≤ l.length * k
  | [], _ => by simp
  | x :: l, h => by
    rw [List.flatMap_cons, List.length_append, List.length_cons, Nat.add_mul]
    have := h x (by simp)
    have := flat_le l fun y hy => h y (by simp [hy])
    omega
theorem Fm.Ok.ps_le {f : Fm} (h : f.Ok) (c : Nat) : (f.ps c).length ≤ 145 := by
  have hms := h.ms
  have hes := h.es
  have e1 : (f.ms.flatMap Mem.ps).length ≤ f.ms.length * 3 := flat_le f.ms fun _ _ => Nat.le_refl _
  have e2 : (f.es.flatMap Ent.ps).length ≤ f.es.length * 8 := flat_le f.es fun _ _ => Nat.le_refl _
  unfold Fm.ps
  by_cases g : c = 101
  · rw [if_pos g]; exact Nat.le_of_ble_eq_true rfl
  rw [if_neg g]
  clear g
  by_cases g : c = 107
  · rw [if_pos g]; exact Nat.le_of_ble_eq_true rfl
  rw [if_neg g]
  clear g
  by_cases g : c = 115
  · rw [if_pos g]; exact Nat.le_of_ble_eq_true rfl
  rw [if_neg g]
  clear g
  by_cases g : c = 118
  · rw [if_pos g]; exact Nat.le_of_ble_eq_true rfl
  rw [if_neg g]
  clear g
  by_cases g : c = 114
  · rw [if_pos g]; exact Nat.le_of_ble_eq_true rfl
  rw [if_neg g]
  clear g
  by_cases g : c = 102
  · rw [if_pos g]; exact Nat.le_of_ble_eq_true rfl
  rw [if_neg g]
  clear g
  by_cases g : c = 100
  · rw [if_pos g]; exact Nat.le_of_ble_eq_true rfl
  rw [if_neg g]
  clear g
  by_cases g : c = 108
  · rw [if_pos g]; exact Nat.le_of_ble_eq_true rfl
  rw [if_neg g]
  clear g
  by_cases g : c = 113
  · rw [if_pos g]; exact Nat.le_of_ble_eq_true rfl
  rw [if_neg g]
  clear g
  by_cases g : c = 98
  · rw [if_pos g]; exact Nat.le_of_ble_eq_true rfl
  rw [if_neg g]
  clear g
  by_cases g : c = 110
  · rw [if_pos g]; exact Nat.le_of_ble_eq_true rfl
  rw [if_neg g]
  clear g
  by_cases g : c = 99
  · rw [if_pos g]; exact Nat.le_of_ble_eq_true rfl
  rw [if_neg g]
  clear g
  by_cases g : c = 119
  · rw [if_pos g, List.length_cons, List.length_cons, List.length_append]; show _ + 1 + 1 + 1 ≤ _; omega
  · rw [if_neg g, List.length_cons]; omega
theorem lets_len (k : Nat) : (lets k).length ≤ 6 := by
  unfold lets
  rcases Nat.lt_or_ge k 17 with h | h
  · have : k = 0 ∨ k = 1 ∨ k = 2 ∨ k = 3 ∨ k = 4 ∨ k = 5 ∨ k = 6 ∨ k = 7 ∨ k = 8 ∨ k = 9 ∨ k = 10 ∨ k = 11 ∨ k = 12 ∨ k = 13 ∨ k = 14 ∨ k = 15 ∨ k = 16 := by omega
    rcases this with rfl | rfl | rfl | rfl | rfl | rfl | rfl | rfl | rfl | rfl | rfl | rfl | rfl | rfl | rfl | rfl | rfl <;> decide
  · rw [List.getD_eq_getElem?_getD, List.getElem?_eq_none (by simpa [fields] using h)]; exact Nat.zero_le _
theorem room_le : ∀ (ps : List Part), (∀ p ∈ ps, p.s.size ≤ 255) → room ps ≤ 264 * ps.length
  | [], _ => Nat.le_refl _
  | p :: ps, h => by
    have h1 := room_le ps fun q hq => h q (by simp [hq])
    have h2 := h p (by simp)
    have : room (p :: ps) = (p.s.size + 9) + room ps := by simp [room]
    rw [this, List.length_cons]; omega
theorem joined_le : ∀ (ps : List Part) (acc : List UInt8), (∀ p ∈ ps, p.s.size ≤ 255) → (joinRes ps acc).1.length ≤ acc.length + 264 * ps.length
  | [], acc, _ => Nat.le_refl _
  | p :: ps, acc, h => by
    show (if p.bytes.2 ≠ 0 then ([], p.bytes.2) else joinRes ps (acc ++ p.bytes.1)).1.length ≤ _
    by_cases e : p.bytes.2 ≠ 0
    · rw [if_pos e]; exact Nat.zero_le _
    · rw [if_neg e]
      have h1 := joined_le ps (acc ++ p.bytes.1) fun q hq => h q (by simp [hq])
      have h2 := Oct.bytes_le p
      have h3 := h p (by simp)
      rw [List.length_append] at h1
      rw [List.length_cons]
      omega
theorem bytes_len {ps : List Part} {b : List UInt8} (h : PB ps b) : b.length ≤ 264 * ps.length := by
  have := joined_le ps [] h.s
  rw [h.j [], List.nil_append] at this
  simpa using this
end Go.Proofs.YtaepgceodcdnhaaDoor.Frm
