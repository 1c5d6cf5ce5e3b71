/- Proposer: no slot is decided twice. -/
import Derived.Test.YtidhblpcaccchaaPL
import Derived.Test.YtidhblpcaccchaaPJ
namespace Go.Proofs.Ytidhblpcaccchaa.Vm
open Go Go.RowKit
namespace X12
structure PAct where
  w : Int
  fr : Int
  n : Int
  b : Int
  s : Int
  c : Int
  es : List REnt
def lentC (e : REnt) : List T := [u32 e.s, u32 e.n, u8 e.b, u32 e.c]
def pactC (a : PAct) : List T := [int a.w, u8 a.fr, u32 a.n, u8 a.b, u32 a.s, u32 a.c, .sl 4 (a.es.map fun e => .agg (lentC e))]
/-- what an array holds -/
def arr (n : Nat) (g : Nat → T) : List T := (List.range n).map g
theorem arr_len (n : Nat) (g : Nat → T) : (arr n g).length = n := by simp [arr]
theorem arr_get (n : Nat) (g : Nat → T) (o : Nat) (h : o < n) : ((arr n g).drop o)[0]? = some (g o) := by simp [arr, h]
theorem arr_set (n : Nat) (g : Nat → T) (o : Nat) (ts : List T) (h : o + ts.length ≤ n) : setCells (arr n g) o ts = arr n (fun j => if o ≤ j ∧ j < o + ts.length then ts.getD (j - o) .und else g j) := by
  apply List.ext_getElem?
  intro j
  unfold setCells arr
  rw [List.getElem?_map, List.getElem?_append, List.getElem?_append, List.getElem?_drop]
  simp only [List.length_append, List.length_take, List.length_map, List.length_range]
  have e : min o n = o := by omega
  rw [e]
  by_cases h1 : j < o
  · rw [if_pos (by omega), if_pos h1, List.getElem?_take, if_pos h1, List.getElem?_map]
    rw [List.getElem?_range (by omega)]
    simp; omega
  · by_cases h2 : j < o + ts.length
    · rw [if_pos h2, if_neg h1, List.getElem?_range (by omega)]
      simp only [Option.map_some]
      rw [if_pos ⟨by omega, h2⟩, List.getD_eq_getElem?_getD]
      rw [List.getElem?_eq_getElem (by omega)]
      simp
    · rw [if_neg h2, List.getElem?_map]
      rcases Nat.lt_or_ge j n with h3 | h3
      · rw [List.getElem?_range h3, List.getElem?_range (by omega)]
        simp only [Option.map_some]
        rw [if_neg (by omega)]
        congr 2
        omega
      · rw [List.getElem?_eq_none (by simp; omega), List.getElem?_eq_none (by simp; omega)]
        rfl
def cmd5 (c : Cmd) (k : Nat) : T := (cmdC c).getD k .und
structure OS where
  p : PP
  by' : Nat → Nat → Bool
  dec : Nat → Bool
  cmd : Nat → Cmd
structure Sz (n1 n2 n3 : Nat) : Prop where
  h1 : n1 = 384
  h2 : n2 = 64
  h3 : n3 = 320
def OS.obs (n1 n2 n3 b1 b2 b3 : Nat) (o : OS) : Obs := [(b1, .cells (arr n1 fun j => bool (o.by' (j / 6) (j % 6)))), (b2, .cells (arr n2 fun j => bool (o.dec j))), (b3, .cells (arr n3 fun j => cmd5 (o.cmd (j / 5)) (j % 5)))]
theorem and15 {s : Int} (h : IsU32 s) : IntKind.wrap .u32 (10 + IntKind.wrap .u32 ((BitVec.ofInt 32 s &&& BitVec.ofInt 32 15).toNat : Int)) = 10 + s % 16 := by
  obtain ⟨h0, h1⟩ := h
  obtain ⟨n, rfl⟩ := Int.eq_ofNat_of_zero_le h0
  have e : (BitVec.ofInt 32 (n : Int) &&& BitVec.ofInt 32 15).toNat = n % 16 := by
    rw [BitVec.toNat_and]
    have e1 : (BitVec.ofInt 32 (n : Int)).toNat = n := by rw [BitVec.toNat_ofInt]; omega
    have e2 : (BitVec.ofInt 32 15).toNat = 2 ^ 4 - 1 := by decide
    rw [e1, e2, Nat.and_two_pow_sub_one_eq_mod]
  rw [e, show IntKind.wrap .u32 ((n % 16 : Nat) : Int) = ((n % 16 : Nat) : Int) from IntWalk.u32_in _ (by omega), IntWalk.u32_in _ (by omega)]
  omega
theorem accP_fst (ms t i : Int) : ∀ l : List (Ent × Int), (accP ms t i l).1.map (·.1) = l.map (·.1)
  | [] => rfl
  | q :: r => by simp only [accP]; split <;> (try split) <;> simp [accP_fst ms t i r]
theorem accP_mem (ms t i : Int) : ∀ l : List (Ent × Int), ∀ q' ∈ (accP ms t i l).1, ∃ q ∈ l, q'.1 = q.1 ∧ (q'.2 = q.2 ∨ q.1.s = t ∧ q'.2 = withM q.2 i)
  | [], q', h => by simp [accP] at h
  | q :: r, q', h => by
    have ih := accP_mem ms t i r
    simp only [accP] at h
    have old : q' ∈ r → ∃ q2 ∈ q :: r, q'.1 = q2.1 ∧ (q'.2 = q2.2 ∨ q2.1.s = t ∧ q'.2 = withM q2.2 i) := fun h => ⟨q', by simp [h], rfl, .inl rfl⟩
    have new : q' ∈ (accP ms t i r).1 → ∃ q2 ∈ q :: r, q'.1 = q2.1 ∧ (q'.2 = q2.2 ∨ q2.1.s = t ∧ q'.2 = withM q2.2 i) := fun h => by
      obtain ⟨q2, h1, h2⟩ := ih q' h
      exact ⟨q2, by simp [h1], h2⟩
    split at h
    · rename_i hs
      split at h
      · rcases List.mem_cons.1 h with rfl | h
        · exact ⟨q, by simp, rfl, .inr ⟨hs, rfl⟩⟩
        · exact old h
      · rcases List.mem_cons.1 h with rfl | h
        · exact ⟨q, by simp, rfl, .inr ⟨hs, rfl⟩⟩
        · exact new h
    · rcases List.mem_cons.1 h with rfl | h
      · exact ⟨q', by simp, rfl, .inl rfl⟩
      · exact new h
theorem accP_some (ms t i : Int) : ∀ (l : List (Ent × Int)) (c : Cmd), (accP ms t i l).2 = some c → ∃ q ∈ l, q.1.s = t ∧ c = q.1.c ∧ 2 * cntM (withM q.2 i) > ms
  | [], c, h => by simp [accP] at h
  | q :: r, c, h => by
    have ih := accP_some ms t i r c
    simp only [accP] at h
    split at h
    · rename_i hs
      split at h
      · rename_i hc
        injection h with h
        exact ⟨q, by simp, hs, h.symm, hc⟩
      · obtain ⟨q2, h1, h2⟩ := ih h
        exact ⟨q2, by simp [h1], h2⟩
    · obtain ⟨q2, h1, h2⟩ := ih h
      exact ⟨q2, by simp [h1], h2⟩
theorem withM_zero {m i : Int} (hm : Mask m) (hi : Mas i) : hasM (withM m i) 0 = hasM m 0 := by
  obtain ⟨k, rfl⟩ := hm.fin
  obtain ⟨i, rfl⟩ := hi.fin
  have : ∀ (k : Fin 64) (i : Fin 5), hasM (withM k.val (i.val + 1)) 0 = hasM k.val 0 := by decide +kernel
  exact this k i
/-- how many of 1 .. k -/
def cntTo (f : Nat → Bool) : Nat → Int
  | 0 => 0
  | k + 1 => cntTo f k + if f (k + 1) then 1 else 0
theorem cntM_to (m : Int) (f : Nat → Bool) (h0 : hasM m 0 = false) (h : ∀ k : Nat, 1 ≤ k → k ≤ 5 → hasM m k = true → f k = true) : cntM m ≤ cntTo f 5 := by
  have e : cntM m = (if hasM m 0 then 1 else 0) + ((if hasM m 1 then 1 else 0) + ((if hasM m 2 then 1 else 0) + ((if hasM m 3 then 1 else 0) + ((if hasM m 4 then 1 else 0) + (if hasM m 5 then 1 else 0))))) := by
    unfold cntM
    rw [show List.range 6 = [0, 1, 2, 3, 4, 5] from rfl]
    simp only [List.filter_cons, List.filter_nil]
    cases hasM m ((0 : Nat) : Int) <;> cases hasM m ((1 : Nat) : Int) <;> cases hasM m ((2 : Nat) : Int) <;> cases hasM m ((3 : Nat) : Int) <;> cases hasM m ((4 : Nat) : Int) <;> cases hasM m ((5 : Nat) : Int) <;> rfl
  have g1 : hasM m 1 = true → f 1 = true := h 1 (by omega) (by omega)
  have g2 : hasM m 2 = true → f 2 = true := h 2 (by omega) (by omega)
  have g3 : hasM m 3 = true → f 3 = true := h 3 (by omega) (by omega)
  have g4 : hasM m 4 = true → f 4 = true := h 4 (by omega) (by omega)
  have g5 : hasM m 5 = true → f 5 = true := h 5 (by omega) (by omega)
  rw [e, h0]
  simp only [cntTo]
  have im : ∀ (a b : Bool), (a = true → b = true) → (if a = true then (1 : Int) else 0) ≤ (if b = true then 1 else 0) := fun a b h => by cases a <;> cases b <;> simp_all
  have i1 := im _ _ g1; have i2 := im _ _ g2; have i3 := im _ _ g3; have i4 := im _ _ g4; have i5 := im _ _ g5
  have key : ∀ a1 a2 a3 a4 a5 d1 d2 d3 d4 d5 : Int, a1 ≤ d1 → a2 ≤ d2 → a3 ≤ d3 → a4 ≤ d4 → a5 ≤ d5 → 0 + (a1 + (a2 + (a3 + (a4 + a5)))) ≤ 0 + d1 + d2 + d3 + d4 + d5 := by intros; omega
  exact key _ _ _ _ _ _ _ _ _ _ i1 i2 i3 i4 i5
structure Inv (o : OS) : Prop where
  ok : o.p.Ok
  ms : o.p.x.ms = 5
  nx : 10 ≤ o.p.x.nx
  lt : ∀ q ∈ o.p.l, 10 ≤ q.1.s ∧ q.1.s < o.p.x.nx
  nd : (o.p.l.map (·.1.s)).Nodup
  dec : ∀ j : Nat, o.dec j = true → (j : Int) < o.p.x.nx ∧ ∀ q ∈ o.p.l, q.1.s ≠ j
  cmd : ∀ q ∈ o.p.l, q.1.s < 64 → o.cmd q.1.s.toNat = q.1.c
  by' : ∀ q ∈ o.p.l, q.1.s < 64 → ∀ i : Nat, 1 ≤ i → i ≤ 5 → hasM q.2 i = true → o.by' q.1.s.toNat i = true
  zero : ∀ q ∈ o.p.l, hasM q.2 0 = false
def onProp (o : OS) (c : Cmd) : OS :=
  { o with p := (pPropose o.p c).1, cmd := if (pPropose o.p c).2.2 = true ∧ (pPropose o.p c).2.1 < 64 then (fun j => if j = (pPropose o.p c).2.1.toNat then c else o.cmd j) else o.cmd }
theorem inv_prop {o : OS} (h : Inv o) (c : Cmd) : Inv (onProp o c) := by
  have hp := h.ok
  by_cases g : o.p.x.ph = 2 ∧ o.p.l.length < 16 ∧ o.p.x.nx ≠ 4294967295
  · have e : pPropose o.p c = (⟨{ o.p.x with nx := o.p.x.nx + 1 }, o.p.f, o.p.l ++ [(⟨o.p.x.nx, o.p.x.n, o.p.x.b, c⟩, 0)]⟩, o.p.x.nx, true) := by rw [pPropose, if_pos g]
    have hn := h.nx
    have he : onProp o c = ⟨⟨{ o.p.x with nx := o.p.x.nx + 1 }, o.p.f, o.p.l ++ [(⟨o.p.x.nx, o.p.x.n, o.p.x.b, c⟩, 0)]⟩, o.by', o.dec, if o.p.x.nx < 64 then (fun j => if j = o.p.x.nx.toNat then c else o.cmd j) else o.cmd⟩ := by
      unfold onProp; rw [e]; simp
    have hok := pPropose_ok hp c
    rw [e] at hok
    rw [he]
    refine ⟨hok, h.ms, by dsimp only; omega, fun q hq => ?_, ?_, fun j hj => ?_, fun q hq hlt => ?_, fun q hq hlt i h1 h2 h3 => ?_, fun q hq => ?_⟩
    · rcases List.mem_append.1 hq with hq | hq
      · have := h.lt q hq; dsimp only; omega
      · simp at hq; subst hq; dsimp only; omega
    · simp only [List.map_append, List.map_cons, List.map_nil, List.nodup_append]
      refine ⟨h.nd, by simp, fun a ha d hd e => ?_⟩
      obtain ⟨q, hq, rfl⟩ := List.mem_map.1 ha
      simp at hd
      have := h.lt q hq
      omega
    · have := h.dec j hj
      refine ⟨by dsimp only; omega, fun q hq => ?_⟩
      rcases List.mem_append.1 hq with hq | hq
      · exact this.2 q hq
      · simp at hq; subst hq; dsimp only; omega
    · rcases List.mem_append.1 hq with hq | hq
      · have h1 := h.lt q hq
        have h2 := h.cmd q hq hlt
        dsimp only
        split
        · dsimp only; rw [if_neg (by omega)]; exact h2
        · exact h2
      · simp at hq; subst hq
        dsimp only at hlt ⊢
        rw [if_pos hlt, if_pos rfl]
    · rcases List.mem_append.1 hq with hq | hq
      · exact h.by' q hq hlt i h1 h2 h3
      · simp at hq; subst hq
        dsimp only at h3
        have : ∀ k : Fin 6, hasM 0 (k.val : Nat) = false := by decide +kernel
        rw [this ⟨i, by omega⟩] at h3
        cases h3
    · rcases List.mem_append.1 hq with hq | hq
      · exact h.zero q hq
      · simp at hq; subst hq; show hasM 0 0 = false; decide +kernel
  · have e : pPropose o.p c = (o.p, 0, false) := by rw [pPropose, if_neg g]
    have he : onProp o c = o := by unfold onProp; rw [e]; simp
    rw [he]; exact h
/-- an acceptance by i for slot t -/
def onMark (o : OS) (t : Nat) (i : Int) : Nat → Nat → Bool := fun s m => if 1 ≤ i ∧ i ≤ 5 ∧ s = t ∧ (m : Int) = i then true else o.by' s m
def onAcc (o : OS) (t : Nat) (i : Int) : OS :=
  { o with p := (pAccepted o.p i 3 1 t).1, by' := onMark o t i, dec := fun j => if j = t ∧ (pAccepted o.p i 3 1 t).2.2 = true then true else o.dec j }
theorem onMark_old {o : OS} {t : Nat} {i : Int} {s m : Nat} (h : o.by' s m = true) : onMark o t i s m = true := by unfold onMark; split <;> simp_all
theorem inv_acc {o : OS} (h : Inv o) (t : Nat) (ht : t < 64) (i : Int) :
    Inv (onAcc o t i) ∧ ((pAccepted o.p i 3 1 t).2.2 = true → o.dec t = false ∧ (pAccepted o.p i 3 1 t).2.1 = o.cmd t ∧ 3 ≤ cntTo (onMark o t i t) 5) := by
  by_cases g : o.p.x.ph = 2 ∧ 3 = o.p.x.n ∧ 1 = o.p.x.b ∧ isMas o.p.x.ms i = true
  · have hi := isMas_mas g.2.2.2 h.ok.ms.2
    have hok := pAccepted_ok h.ok i 3 1 t
    have a1 := accP_fst o.p.x.ms t i o.p.l
    have a2 := accP_mem o.p.x.ms t i o.p.l
    have a3 := accP_some o.p.x.ms t i o.p.l
    -- what is known of the list behind
    have mem : ∀ q' ∈ (accP o.p.x.ms t i o.p.l).1, (10 ≤ q'.1.s ∧ q'.1.s < o.p.x.nx) ∧ (∀ j : Nat, o.dec j = true → q'.1.s ≠ j) ∧ (q'.1.s < 64 → o.cmd q'.1.s.toNat = q'.1.c) ∧
        (q'.1.s < 64 → ∀ k : Nat, 1 ≤ k → k ≤ 5 → hasM q'.2 k = true → onMark o t i q'.1.s.toNat k = true) ∧ hasM q'.2 0 = false := by
      intro q' hq'
      obtain ⟨q, hq, e1, e2⟩ := a2 q' hq'
      rw [e1]
      refine ⟨h.lt q hq, fun j hj => (h.dec j hj).2 q hq, h.cmd q hq, fun hlt k h1 h2 h3 => ?_, ?_⟩
      · rcases e2 with e2 | ⟨e3, e2⟩
        · rw [e2] at h3
          exact onMark_old (h.by' q hq hlt k h1 h2 h3)
        · rw [e2, withM_has (h.ok.mask q hq) hi ⟨by omega, by omega⟩] at h3
          rcases Bool.or_eq_true_iff.1 h3 with h3 | h3
          · exact onMark_old (h.by' q hq hlt k h1 h2 h3)
          · have : (k : Int) = i := by simpa using h3
            unfold onMark
            rw [if_pos ⟨by omega, by omega, by omega, this⟩]
      · rcases e2 with e2 | ⟨_, e2⟩
        · rw [e2]; exact h.zero q hq
        · rw [e2, withM_zero (h.ok.mask q hq) hi]; exact h.zero q hq
    have nd : ((accP o.p.x.ms t i o.p.l).1.map (·.1.s)).Nodup := by
      have : (accP o.p.x.ms t i o.p.l).1.map (·.1.s) = o.p.l.map (·.1.s) := by
        have := congrArg (List.map Ent.s) a1
        simpa [List.map_map, Function.comp_def] using this
      rw [this]; exact h.nd
    cases hs : (accP o.p.x.ms t i o.p.l).2 with
    | none =>
      have e : pAccepted o.p i 3 1 t = (⟨o.p.x, o.p.f, (accP o.p.x.ms t i o.p.l).1⟩, c0, false) := by
        rw [pAccepted, if_pos g]
        generalize accP o.p.x.ms t i o.p.l = z at hs ⊢
        obtain ⟨z1, z2⟩ := z
        simp only at hs; subst hs; rfl
      rw [e] at hok
      refine ⟨?_, fun h => by rw [e] at h; cases h⟩
      unfold onAcc
      rw [e]
      refine ⟨hok, h.ms, h.nx, fun q hq => (mem q hq).1, nd, fun j hj => ?_, fun q hq => (mem q hq).2.2.1, fun q hq => (mem q hq).2.2.2.1, fun q hq => (mem q hq).2.2.2.2⟩
      have hj' : o.dec j = true := by simpa using hj
      exact ⟨(h.dec j hj').1, fun q hq => (mem q hq).2.1 j hj'⟩
    | some c =>
      have e : pAccepted o.p i 3 1 t = (⟨o.p.x, o.p.f, (accP o.p.x.ms t i o.p.l).1.filter fun q => !(q.1.s == t)⟩, c, true) := by
        rw [pAccepted, if_pos g]
        generalize accP o.p.x.ms t i o.p.l = z at hs ⊢
        obtain ⟨z1, z2⟩ := z
        simp only at hs; subst hs; rfl
      rw [e] at hok
      obtain ⟨q, hq, k1, k2, k3⟩ := a3 c hs
      have hqt : q.1.s.toNat = t := by omega
      constructor
      · unfold onAcc
        rw [e]
        refine ⟨hok, h.ms, h.nx, fun q hq => (mem q (List.mem_filter.1 hq).1).1, (nd.sublist (List.Sublist.map _ List.filter_sublist)), fun j hj => ?_, fun q hq => (mem q (List.mem_filter.1 hq).1).2.2.1, fun q hq => (mem q (List.mem_filter.1 hq).1).2.2.2.1, fun q hq => (mem q (List.mem_filter.1 hq).1).2.2.2.2⟩
        by_cases hjt : j = t
        · subst hjt
          refine ⟨by have := (h.lt q hq).2; dsimp only; omega, fun q' hq' => ?_⟩
          have := (List.mem_filter.1 hq').2
          simpa using this
        · have hj' : o.dec j = true := by simpa [hjt] using hj
          exact ⟨(h.dec j hj').1, fun q' hq' => (mem q' (List.mem_filter.1 hq').1).2.1 j hj'⟩
      · intro _
        rw [e]
        refine ⟨?_, by have := h.cmd q hq (by omega); rw [hqt] at this; rw [k2]; exact this.symm, ?_⟩
        · cases hd : o.dec t with
          | false => rfl
          | true => exact absurd k1 ((h.dec t hd).2 q hq)
        · have := cntM_to (withM q.2 i) (onMark o t i t) (by rw [withM_zero (h.ok.mask q hq) hi]; exact h.zero q hq) (fun k h1 h2 h3 => by
            rw [withM_has (h.ok.mask q hq) hi ⟨by omega, by omega⟩] at h3
            rcases Bool.or_eq_true_iff.1 h3 with h3 | h3
            · have := h.by' q hq (by omega) k h1 h2 h3
              rw [hqt] at this
              exact onMark_old this
            · have : (k : Int) = i := by simpa using h3
              unfold onMark
              rw [if_pos ⟨by omega, by omega, rfl, this⟩])
          have := h.ms
          omega
  · have e : pAccepted o.p i 3 1 t = (o.p, c0, false) := by rw [pAccepted, if_neg g]
    refine ⟨?_, fun h => by rw [e] at h; cases h⟩
    unfold onAcc
    rw [e]
    exact ⟨h.ok, h.ms, h.nx, h.lt, h.nd, fun j hj => h.dec j (by simpa using hj), h.cmd, fun q hq hlt i h1 h2 h3 => onMark_old (h.by' q hq hlt i h1 h2 h3), h.zero⟩
end X12
end Go.Proofs.Ytidhblpcaccchaa.Vm
